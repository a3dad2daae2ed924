/- Contracts of package attr's find, Get and Is, of package rule's Hidden, See and May, and of the document's FirstOf and Veiled. -/
import Derived.Test.YtakooljbkjnilaaFrame
import Derived.Test.YtakooljbkjnilaaOwn
import Derived.WalkSpells
import Derived.Handy
import Derived.Outline
import Derived.Lib.Hide
namespace Go.Proofs.Ytakooljbkjnilaa
open Go.ChangeShapes Go.WideShapes Go.ChangeAt Go.RowKit
set_option maxHeartbeats 1000000
set_option maxRecDepth 100000
attribute [local go_sem] kp_refl kp_alloc kp_setCell kp_drew kp_drewN row_new row_old rowAt_new rowAt_old

/-- An attribute as it lies in memory. -/
structure At where
  kind : Int
  A : Option Addr
  cap : Nat
  body : List UInt8
def At.cells (x : At) : List Value := [.int .i64 x.kind, .slice x.A x.body.length x.cap]
/-- A slice of attributes at A, below B. -/
structure Ats (w : World) (B : Nat) (A : Option Addr) (l : List At) : Prop where
  cells : Rd w B A (l.flatMap At.cells)
  body : ∀ x ∈ l, Rd w B x.A (bytesV x.body) ∧ x.body.length ≤ x.cap ∧ (x.cap ≤ 9223372036854775807 ∧ x.body.length ≤ 140737488351232)
theorem Ats.kp {w W : World} {B : Nat} {A : Option Addr} {l : List At} (h : Ats w B A l) (hb : Kp B w W) : Ats W B A l :=
  ⟨h.cells.kp hb, fun x hx => ⟨(h.body x hx).1.kp hb, (h.body x hx).2⟩⟩
theorem Ats.more {w : World} {B B' : Nat} {A : Option Addr} {l : List At} (h : Ats w B A l) (hB : B ≤ B') : Ats w B' A l :=
  ⟨h.cells.more hB, fun x hx => ⟨(h.body x hx).1.more hB, (h.body x hx).2⟩⟩
theorem Ats.step {w W : World} {A : Option Addr} {l : List At} (h : Ats w w.heap.size A l) (hb : Below w.heap.size w W) : Ats W W.heap.size A l :=
  (h.kp (kp_of_below hb)).more hb.size
theorem at_cells (l : List At) (k : Nat) : (l.flatMap At.cells)[k * 2]? = (l[k]?).map (fun x => .int .i64 x.kind) ∧ (l.flatMap At.cells)[k * 2 + 1]? = (l[k]?).map (fun x => .slice x.A x.body.length x.cap) := by
  induction l generalizing k with
  | nil => simp
  | cons x r ih =>
    cases k with
    | zero => simp [At.cells]
    | succ k =>
      have h1 : (k + 1) * 2 = k * 2 + 2 := by omega
      have h2 : (k + 1) * 2 + 1 = (k * 2 + 1) + 2 := by omega
      rw [h2, h1]
      simp only [List.flatMap_cons, At.cells, List.cons_append, List.nil_append, List.getElem?_cons_succ]
      exact ih k
theorem Ats.at_ {w : World} {B : Nat} {A : Option Addr} {l : List At} (h : Ats w B A l) {k : Nat} (hk : k < l.length) :
    ∃ ad, A = some ad ∧ ad.block < B ∧ w.cell? (ad.add (k * 2)) = some (.int .i64 l[k].kind) ∧ w.cell? ⟨(ad.add (k * 2)).block, (ad.add (k * 2)).off + 1, none⟩ = some (.slice l[k].A l[k].body.length l[k].cap) := by
  obtain ⟨h1, h2⟩ := at_cells l k
  rw [List.getElem?_eq_getElem hk] at h1 h2
  obtain ⟨ad, rfl, hb, c1⟩ := h.cells _ _ h1
  exact ⟨ad, rfl, hb, c1, by have h3 := h.cells.all h2; rw [← addr_add] at h3; exact h3⟩

/-- The first of a kind is number i; there is none. -/
structure Has (l : List At) (k : Int) (i : Nat) : Prop where
  lt : i < l.length
  eq : l[i].kind = k
  ne : ∀ j (h : j < i), l[j].kind ≠ k
def Hasnt (l : List At) (k : Int) : Prop := ∀ j (h : j < l.length), l[j].kind ≠ k
theorem has_or (l : List At) (k : Int) : (∃ i, Has l k i) ∨ Hasnt l k := by
  suffices h : ∀ n, n ≤ l.length → (∃ i, Has l k i) ∨ ∀ j (h : j < l.length), j < n → l[j].kind ≠ k by
    rcases h l.length (Nat.le_refl _) with h | h
    · exact .inl h
    · exact .inr fun j hj => h j hj hj
  intro n
  induction n with
  | zero => exact fun _ => .inr fun j _ h => absurd h (by omega)
  | succ n ih =>
    intro hn
    rcases ih (by omega) with h | h
    · exact .inl h
    · by_cases e : l[n].kind = k
      · exact .inl ⟨n, by omega, e, fun j hj => h j (by omega) hj⟩
      · refine .inr fun j hj hjn => ?_
        rcases Nat.lt_or_ge j n with h2 | h2
        · exact h j hj h2
        · obtain rfl : j = n := by omega
          exact e

theorem find_1 (k a : Int) (s : Value) (g : Nat) (w : World) (hg : w.cell? ⟨g, 0, none⟩ = some (.int .i64 k)) (hgl : g < w.heap.size) :
    Calls Try.prog 42 #[.agg #[.int .i64 a, s], .pointer (some ⟨g, 0, none⟩)] w fun e w' => e = .returned (.bool (a == k)) ∧ Below w.heap.size w w' := by
  go_enter Try.func42, Try.ntmps42
  go_wp2
  go_ret
  exact ⟨rfl, by go_grown⟩

def FindR (i : Int) (w : World) (e : Ending) (w' : World) : Prop := e = .returned (.int .i64 i) ∧ Below w.heap.size w w'
theorem index_has (A : Option Addr) (l : List At) (c i : Nat) (k : Int) (g : Nat) (w : World) (h : Ats w w.heap.size A l) (hl : l.length ≤ 9223372036854775807) (hg : w.cell? ⟨g, 0, none⟩ = some (.int .i64 k)) (hgl : g < w.heap.size) (hi : Has l k i) :
    Calls Try.prog 41 #[.slice A l.length c, .func (.func 42) #[] #[.pointer (some ⟨g, 0, none⟩)]] w (FindR i w) := by
  have hil := hi.lt
  go_enter Try.func41, Try.ntmps41
  go_wp2
  go_loopw [8] (fun x wr => ∃ j : Nat, x = .int .i64 j ∧ j ≤ i ∧ Below w.heap.size w wr ∧ w.heap.size ≤ wr.heap.size) (fun x _ => i + 1 - (intOf x).toNat)
  case atStart => exact ⟨0, rfl, by omega, Below.refl _ _, Nat.le_refl _⟩
  case round =>
    obtain ⟨j, rfl, hj, hb, hz⟩ := hrel
    obtain ⟨ad, rfl, hbl, c1, c2⟩ := (h.kp (kp_of_below hb)).at_ (show j < l.length by omega)
    have hg' := ((bcell hb).1 g 0 hgl).trans hg
    by_cases hji : j = i
    · subst hji
      have he := hi.eq
      have hkk : (l[j].kind == k) = true := by simp [he]
      clear he
      go_wp2_with (refine (find_1 k l[j].kind _ g _ hg' (by omega)).mono ?_; rintro e w' ⟨rfl, hb'⟩)
      go_ret
      exact ⟨rfl, hb.trans (hb'.mono hz)⟩
    · have hkk : (l[j].kind == k) = false := by simpa using hi.ne j (by omega)
      go_wp2_with (refine (find_1 k l[j].kind _ g _ hg' (by omega)).mono ?_; rintro e w' ⟨rfl, hb'⟩)
      go_roundw
      case rel => exact ⟨j + 1, by go_num, by omega, hb.trans (hb'.mono hz), Nat.le_trans hz hb'.size⟩
      case measure => simp [intOf]; omega
theorem index_hasnt (A : Option Addr) (l : List At) (c : Nat) (k : Int) (g : Nat) (w : World) (h : Ats w w.heap.size A l) (hl : l.length ≤ 9223372036854775807) (hg : w.cell? ⟨g, 0, none⟩ = some (.int .i64 k)) (hgl : g < w.heap.size) (hi : Hasnt l k) :
    Calls Try.prog 41 #[.slice A l.length c, .func (.func 42) #[] #[.pointer (some ⟨g, 0, none⟩)]] w (FindR (-1) w) := by
  go_enter Try.func41, Try.ntmps41
  go_wp2
  go_loopw [8] (fun x wr => ∃ j : Nat, x = .int .i64 j ∧ j ≤ l.length ∧ Below w.heap.size w wr ∧ w.heap.size ≤ wr.heap.size) (fun x _ => l.length - (intOf x).toNat)
  case atStart => exact ⟨0, rfl, by omega, Below.refl _ _, Nat.le_refl _⟩
  case round =>
    obtain ⟨j, rfl, hj, hb, hz⟩ := hrel
    by_cases hji : j = l.length
    · subst hji
      go_wp2
      go_ret
      exact ⟨rfl, hb⟩
    · obtain ⟨ad, rfl, hbl, c1, c2⟩ := (h.kp (kp_of_below hb)).at_ (show j < l.length by omega)
      have hg' := ((bcell hb).1 g 0 hgl).trans hg
      have hkk : (l[j].kind == k) = false := by simpa using hi j (by omega)
      go_wp2_with (refine (find_1 k l[j].kind _ g _ hg' (by omega)).mono ?_; rintro e w' ⟨rfl, hb'⟩)
      go_roundw
      case rel => exact ⟨j + 1, by go_num, by omega, hb.trans (hb'.mono hz), Nat.le_trans hz hb'.size⟩
      case measure => simp [intOf]; omega
end Go.Proofs.Ytakooljbkjnilaa
