/- Package store: a store as it lies in memory; New, Next. -/
import Derived.Test.YtakooljbkjnilaaLg1
import Derived.Test.YtakooljbkjnilaaOk
import Derived.Test.YtakooljbkjnilaaRf1
namespace Go.Proofs.Ytakooljbkjnilaa
open Go.ChangeShapes Go.WideShapes Go.ChangeAt Go.RowKit
set_option maxHeartbeats 1000000
set_option maxRecDepth 100000

/-- A slice of attributes that lies in blocks of a kind p. -/
structure AtsP (p : Nat → Prop) (w : World) (A : Option Addr) (l : List At) : Prop where
  ats : Ats w w.heap.size A l
  own : ∀ a, A = some a → p a.block
  body : ∀ x ∈ l, ∀ a, x.A = some a → p a.block
theorem rd_keptP {w w' : World} {A : Option Addr} {xs : List Value} (h : Rd w w.heap.size A xs) (hb : ∀ a, A = some a → a.block < w.heap.size → w'.heap[a.block]? = w.heap[a.block]?) (hs : w.heap.size ≤ w'.heap.size) : Rd w' w'.heap.size A xs := fun j u hu => by
  obtain ⟨ad, ha, hlt, hc⟩ := h j u hu
  exact ⟨ad, ha, by omega, (World.cell?_of_block (by rw [addr_block]; exact hb ad ha hlt)).trans hc⟩
theorem AtsP.kept {p : Nat → Prop} {w w' : World} {A : Option Addr} {l : List At} (h : AtsP p w A l) (hb : ∀ k, k < w.heap.size → p k → w'.heap[k]? = w.heap[k]?) (hs : w.heap.size ≤ w'.heap.size) : AtsP p w' A l :=
  ⟨⟨rd_keptP h.ats.cells (fun a ha hl => hb _ hl (h.own a ha)) hs, fun x hx => ⟨rd_keptP (h.ats.body x hx).1 (fun a ha hl => hb _ hl (h.body x hx a ha)) hs, (h.ats.body x hx).2⟩⟩, h.own, h.body⟩
theorem AtsP.weaken {p q : Nat → Prop} {w : World} {A : Option Addr} {l : List At} (h : AtsP p w A l) (hpq : ∀ k, p k → q k) : AtsP q w A l := ⟨h.ats, fun a ha => hpq _ (h.own a ha), fun x hx a ha => hpq _ (h.body x hx a ha)⟩
theorem AtsP.step {p : Nat → Prop} {w w' : World} {A : Option Addr} {l : List At} (h : AtsP p w A l) (hb : Below w.heap.size w w') : AtsP p w' A l := h.kept (fun k hk _ => hb.block k hk) hb.size

/-- An object kept. -/
structure Hd where
  h : Int
  o : Int
  A : Option Addr
  cap : Nat
  l : List At
def Hd.cells (x : Hd) : List Value := [.int .i64 x.h, .int .i64 x.o, .slice x.A x.l.length x.cap]
def Hd.val (x : Hd) : Value := .agg #[.int .i64 x.h, .int .i64 x.o, .slice x.A x.l.length x.cap]
def hdM (l : List Hd) : List (Int × Value) := l.map fun x => (x.h, x.val)
structure HdOk (p : Nat → Prop) (w : World) (x : Hd) : Prop where
  ats : AtsP p w x.A x.l
  len : x.l.length ≤ x.cap
  cap : x.cap ≤ maxLen
  lim : x.l.length ≤ 4398046511104
theorem HdOk.kept {p : Nat → Prop} {w w' : World} {x : Hd} (h : HdOk p w x) (hb : ∀ k, k < w.heap.size → p k → w'.heap[k]? = w.heap[k]?) (hs : w.heap.size ≤ w'.heap.size) : HdOk p w' x := ⟨h.ats.kept hb hs, h.len, h.cap, h.lim⟩
/-- A store. -/
structure StAt (w : World) (g bm : Nat) (most next : Int) (l : List Hd) : Prop where
  cells : ∃ te, w.heap[g]? = some (.cells #[.int .i64 most, .int .i64 next, .map (some bm)] te (0, 0))
  mp : MpAt w bm (hdM l)
  at_ : ∀ x ∈ l, HdOk (fun k => k ≠ g ∧ k ≠ bm) w x
theorem StAt.ne {w : World} {g bm : Nat} {most next : Int} {l : List Hd} (h : StAt w g bm most next l) : g ≠ bm := by
  intro e
  obtain ⟨te, h1⟩ := h.cells
  obtain ⟨es, clock, h2, -⟩ := h.mp.own
  rw [e, h2] at h1
  cases h1
theorem StAt.lt {w : World} {g bm : Nat} {most next : Int} {l : List Hd} (h : StAt w g bm most next l) : g < w.heap.size := by
  obtain ⟨te, h1⟩ := h.cells
  exact (Array.getElem?_eq_some_iff.1 h1).1
/-- The same store where its two blocks and the blocks of its attributes stay. -/
theorem StAt.kept {w w' : World} {g bm : Nat} {most next : Int} {l : List Hd} (h : StAt w g bm most next l) (hb : ∀ k, k < w.heap.size → w'.heap[k]? = w.heap[k]?) (hs : w.heap.size ≤ w'.heap.size) : StAt w' g bm most next l := by
  obtain ⟨te, h1⟩ := h.cells
  obtain ⟨es', clock, hb', F, hss, hD⟩ := h.mp.own
  exact ⟨⟨te, (hb g h.lt).trans h1⟩, ⟨⟨es', clock, (hb bm h.mp.lt).trans hb', F, hss, hD⟩, h.mp.asc, h.mp.wf⟩, fun x hx => (h.at_ x hx).kept (fun k hk _ => hb k hk) hs⟩
theorem StAt.step {w w' : World} {g bm : Nat} {most next : Int} {l : List Hd} (h : StAt w g bm most next l) (hb : Below w.heap.size w w') : StAt w' g bm most next l := h.kept (fun k hk => hb.block k hk) hb.size
theorem StAt.c {w : World} {g bm : Nat} {most next : Int} {l : List Hd} (h : StAt w g bm most next l) : w.cell? ⟨g, 0, none⟩ = some (.int .i64 most) ∧ w.cell? ⟨g, 1, none⟩ = some (.int .i64 next) ∧ w.cell? ⟨g, 2, none⟩ = some (.map (some bm)) ∧ ∀ i, w.frozen? ⟨g, i, none⟩ = false := by
  obtain ⟨te, h1⟩ := h.cells
  refine ⟨?_, ?_, ?_, fun i => ?_⟩ <;> simp [World.cell?, World.frozen?, h1]
theorem store_Next (g bm : Nat) (most next : Int) (l : List Hd) (w : World) (h : StAt w g bm most next l) :
    Calls Try.prog 6 #[.pointer (some ⟨g, 0, none⟩)] w fun e w' => e = .returned (.int .i64 next) ∧ w = w' := by
  obtain ⟨c0, c1, c2, cf⟩ := h.c
  go_enter Try.func6, Try.ntmps6
  go_wp2
  go_ret
  exact ⟨rfl, rfl⟩
/-- Restore of nothing. -/
theorem store_Restore0_no (most : Int) (w : World) (hm : most < 1 ∨ 16 < most) :
    Calls Try.prog 8 #[.int .i64 most, .int .i64 1, .slice none 0 0] w fun e w' => e = .returned (.tuple #[.pointer none, .int .i64 1]) ∧ w = w' := by
  by_cases h1 : most < 1
  · go_enter Try.func8, Try.ntmps8
    go_wp2
    go_ret2
    exact ⟨rfl, rfl⟩
  · have h2 : 16 < most := by omega
    clear hm
    go_enter Try.func8, Try.ntmps8
    go_wp2
    go_ret2
    exact ⟨rfl, rfl⟩
def NewSR (most next : Int) (l : List Hd) (w : World) (e : Ending) (w' : World) : Prop := ∃ g bm, e = .returned (.tuple #[.pointer (some ⟨g, 0, none⟩), .int .i64 0]) ∧ StAt w' g bm most next l ∧ w.heap.size ≤ g ∧ w.heap.size ≤ bm ∧ Below w.heap.size w w'
theorem store_New_no (most : Int) (w : World) (hm : most < 1 ∨ 16 < most) :
    Calls Try.prog 5 #[.int .i64 most] w fun e w' => e = .returned (.tuple #[.pointer none, .int .i64 1]) ∧ w = w' := by
  go_enter Try.func5, Try.ntmps5
  go_wp2_with (go_at_call 8; refine (store_Restore0_no most _ hm).mono ?_; rintro e w' ⟨rfl, rfl⟩)
  go_ret2
  exact ⟨rfl, rfl⟩
theorem store_Restore0 (most : Int) (w : World) (h1 : 1 ≤ most) (h2 : most ≤ 16) :
    Calls Try.prog 8 #[.int .i64 most, .int .i64 1, .slice none 0 0] w (NewSR most 1 [] w) := by
  have hmm := @run_makeMap Try.prog
  have d1 : ¬ most < 1 := by omega
  have d2 : ¬ 16 < most := by omega
  go_enter Try.func8, Try.ntmps8
  go_wp2
  go_loopw [30] (fun x wr => x = .int .i64 0 ∧ wr = w) (fun _ _ => 0)
  case atStart => exact ⟨rfl, rfl⟩
  case round =>
    obtain ⟨rfl, rfl⟩ := hrel
    go_wp2
    go_loopw [58] (fun x wk => x = .int .i64 0 ∧ StAt wk (wr.heap.size + 1) wr.heap.size most 1 [] ∧ Below wr.heap.size wr wk) (fun _ _ => 0)
    case atStart =>
      exact ⟨rfl, ⟨⟨_, blk_new _ _ (by simp)⟩, (mp_made wr).step (below_alloc' _ _), fun x hx => by simp at hx⟩, ((Below.refl _ _).alloc (Nat.le_refl _) _).alloc (by simp) _⟩
    case round =>
      obtain ⟨rfl, hS, hB⟩ := hrel
      go_wp2
      go_ret2
      exact ⟨_, _, rfl, hS, by omega, Nat.le_refl _, hB⟩
theorem store_New (most : Int) (w : World) (h1 : 1 ≤ most) (h2 : most ≤ 16) :
    Calls Try.prog 5 #[.int .i64 most] w (NewSR most 1 [] w) := by
  go_enter Try.func5, Try.ntmps5
  go_wp2_with (go_at_call 8; refine (store_Restore0 most _ h1 h2).mono ?_; rintro e w' ⟨g, bm, rfl, hS, h3, h4, h5⟩)
  go_ret2
  exact ⟨g, bm, rfl, hS, h3, h4, h5⟩
end Go.Proofs.Ytakooljbkjnilaa
