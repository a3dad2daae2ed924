/- Contracts of der.Read, and of the document's ReadItems and SameItems. -/
import Derived.Test.YtdlmamnnamlleaaDoorDerR
import Derived.Deep.DeepMust
namespace Go.Proofs.YtdlmamnnamlleaaDoor
open Go.ChangeShapes Go.WideShapes Go.ChangeAt Go.RowKit

attribute [local go_sem] kp_refl kp_alloc kp_setCell kp_drew kp_drewN row_new row_old rowAt_new rowAt_old bs_get

def It.pair (x : It) : UInt8 × List UInt8 := (x.tag, x.body)

def readL : Nat → List UInt8 → List (UInt8 × List UInt8) → List (UInt8 × List UInt8) × Int
  | _, [], acc => (acc, 0)
  | 0, _ :: _, _ => ([], 0)
  | f + 1, b :: r, acc =>
    if acc.length = 200 then ([], 2)
    else if (firstS (b :: r)).2.2 ≠ 0 then ([], (firstS (b :: r)).2.2)
    else readL f ((b :: r).drop (firstS (b :: r)).2.1) (acc ++ [(firstS (b :: r)).1])
def readS (b : List UInt8) : List (UInt8 × List UInt8) × Int := if 65536 < b.length then ([], 2) else readL b.length b []

theorem firstS_ok (b : List UInt8) (h : (firstS b).2.2 = 0) : 1 ≤ (firstS b).2.1 ∧ (firstS b).2.1 ≤ b.length := by
  cases b with
  | nil => simp [firstS] at h
  | cons t r =>
    simp only [firstS] at h ⊢
    split
    · rename_i g; rw [if_pos g] at h; exact absurd h g
    · rename_i g
      rw [if_neg g] at h
      have hk := (lenD_ok r (by simpa using g)).1
      split
      · rename_i g1; rw [if_pos g1] at h; simp at h
      · rename_i g1
        rw [if_neg g1] at h
        split
        · rename_i g2; rw [if_pos g2] at h; simp at h
        · rename_i g2
          simp at g2 ⊢
          omega

/-- Items of the call's own, one behind the other. -/
structure ItsOwn (B : Nat) (w : World) (v : Value) (l : List It) : Prop where
  own : w.ownsRow B 71 2 v l.length (l.flatMap It.cells)
  body : ∀ x ∈ l, Rd w w.heap.size x.A (bytesV x.body) ∧ x.body.length ≤ x.cap ∧ x.cap ≤ maxLen ∧ ∀ a, x.A = some a → B ≤ a.block ∧ a.block < w.heap.size ∧ some a.block ≠ v.ownBlock

theorem rd_grown {w w' : World} {B : Nat} {A : Option Addr} {xs : List Value} {row : Option Nat} (h : Rd w B A xs) (hg : w.grownBy w' row) (hB : B ≤ w.heap.size) (hne : ∀ a, A = some a → some a.block ≠ row) : Rd w' B A xs := fun j u hu => by
  obtain ⟨ad, e, hl, hc⟩ := h j u hu
  exact ⟨ad, e, hl, (World.cell?_of_block (hg.block (ad.add j).block (by rw [addr_block]; omega) (by rw [addr_block]; exact hne ad e))).trans hc⟩

theorem Rd.lt {w : World} {B : Nat} {a : Addr} {xs : List Value} (h : Rd w B (some a) xs) (hx : 0 < xs.length) : a.block < B := by
  obtain ⟨ad, e, hl, -⟩ := h 0 xs[0] (List.getElem?_eq_getElem hx)
  injection e with e; subst e; exact hl

/-- One item more. -/
theorem ItsOwn.step {B : Nat} {w w1 W w2 : World} {v v2 : Value} {l : List It} {x : It} (I : ItsOwn B w v l) (h1 : Below w.heap.size w w1) (hx : Rd w1 w1.heap.size x.A (bytesV x.body)) (hc : x.body.length ≤ x.cap ∧ x.cap ≤ maxLen)
    (hfar : ∀ a, x.A = some a → w.heap.size ≤ a.block) (hB : B ≤ w.heap.size) (h2 : Below w1.heap.size w1 W) (hg : W.grownBy w2 v.ownBlock) (hat : v2.ownBlock = v.ownBlock ∨ v2.ownBlock = some W.heap.size)
    (hown : w2.ownsRow B 71 2 v2 (l.length + 1) (l.flatMap It.cells ++ x.cells)) (hlt : ∀ a, x.A = some a → a.block < w1.heap.size) : ItsOwn B w2 v2 (l ++ [x]) := by
  have hv : ∀ g, v.ownBlock = some g → g < w.heap.size := fun g hg => (I.own.lt g hg).2
  have hs1 := h1.size
  have hs2 := h2.size
  have hs3 := hg.size
  refine ⟨by simpa using hown, fun y hy => ?_⟩
  rcases List.mem_append.1 hy with hy | hy
  · obtain ⟨r1, r2, r3, r4⟩ := I.body y hy
    refine ⟨?_, r2, r3, fun a ha => ⟨(r4 a ha).1, by have := (r4 a ha).2.1; omega, ?_⟩⟩
    · have q1 := (r1.below h1).below (h2.mono hs1)
      exact (rd_grown q1 hg (by omega) (fun a ha => (r4 a ha).2.2)).more (by omega)
    · rcases hat with e | e
      · rw [e]; exact (r4 a ha).2.2
      · rw [e]
        intro e2
        injection e2 with e2
        have := (r4 a ha).2.1
        omega
  · have hyx : y = x := by simpa using hy
    subst hyx
    refine ⟨?_, hc.1, hc.2, fun a ha => ⟨by have := hfar a ha; omega, by have := hlt a ha; omega, ?_⟩⟩
    · exact (rd_grown (hx.below h2) hg (by omega) (fun a ha e => by have h5 := hv _ e.symm; have := hfar a ha; omega)).more (by omega)
    · have h6 := hlt a ha
      have h7 := hfar a ha
      rcases hat with e | e
      · rw [e]; intro e2; have := hv _ e2.symm; omega
      · rw [e]; intro e2; injection e2 with e2; omega
/-! ### Read -/
theorem SIt : SlT Tryd.prog 78 71 2 32 := SlT.mk' Tryd.underlying78 (by kernel_rfl) (by omega)

def Rds (w : World) (b : List UInt8) (e : Ending) (w' : World) : Prop :=
  ∃ (A : Option Addr) (l : List It) (c : Nat), e = .returned (.tuple #[.slice A l.length c, .int .i64 (readS b).2]) ∧ Its w' w'.heap.size A l ∧ l.map It.pair = (readS b).1 ∧ l.length ≤ maxLen ∧ Below w.heap.size w w'

def vlen : Value → Nat
  | .slice _ n _ => n
  | .string s => s.size
  | _ => 0

theorem rds_err {w w' : World} {b : List UInt8} {z p : Int} (h : readS b = ([], z)) (hz : z = p) (hb : Below w.heap.size w w') : Rds w b (.returned (.tuple #[.slice none 0 0, .int .i64 p])) w' := by
  subst hz
  exact ⟨none, [], 0, by rw [h]; rfl, ⟨Rd.nil, fun x hx => by simp at hx⟩, by rw [h]; rfl, by simp [maxLen], hb⟩

theorem rds_ok {w w' : World} {b : List UInt8} {A : Option Addr} {l : List It} {c : Nat} {p : Int} (h : readS b = (l.map It.pair, 0)) (hz : p = 0) (hi : Its w' w'.heap.size A l) (hl : l.length ≤ maxLen) (hb : Below w.heap.size w w') :
    Rds w b (.returned (.tuple #[.slice A l.length c, .int .i64 p])) w' := by
  subst hz
  exact ⟨A, l, c, by rw [h], hi, by rw [h], hl, hb⟩

theorem ItsOwn.its {B : Nat} {w : World} {v : Value} {l : List It} (h : ItsOwn B w v l) : ∃ A c, v = .slice A l.length c ∧ Its w w.heap.size A l := by
  obtain ⟨A, c, rfl⟩ := own_form h.own
  exact ⟨A, c, rfl, Rd.of_own h.own, fun x hx => ⟨(h.body x hx).1, (h.body x hx).2.1, (h.body x hx).2.2.1⟩⟩

theorem own_below {w w1 : World} {B : Nat} {e : TypeId} {size n : Nat} {v : Value} {xs : List Value} (h : w.ownsRow B e size v n xs) (hb : Below w.heap.size w w1) : w1.ownsRow B e size v n xs := by
  refine h.kept (row := none) ⟨hb.os, hb.tape, hb.output, hb.size, fun i hi _ => hb.block i hi⟩ ?_
  cases v.ownBlock with
  | none => exact .inl rfl
  | some g => exact .inr (by simp)

theorem readL_stop {f : Nat} {b : UInt8} {r : List UInt8} {acc : List (UInt8 × List UInt8)} (hf : (b :: r).length ≤ f) (h : acc.length = 200) : readL f (b :: r) acc = ([], 2) := by
  cases f with
  | zero => simp at hf
  | succ f => simp only [readL, if_pos h]
theorem readL_err {f : Nat} {b : UInt8} {r : List UInt8} {acc : List (UInt8 × List UInt8)} {x : UInt8 × List UInt8} {n : Nat} {z : Int} (hf : (b :: r).length ≤ f) (h : ¬ acc.length = 200) (hF : firstS (b :: r) = (x, n, z)) (hz : z ≠ 0) : readL f (b :: r) acc = ([], z) := by
  cases f with
  | zero => simp at hf
  | succ f => simp only [readL, if_neg h, hF, if_pos hz]
theorem readL_next {f : Nat} {b : UInt8} {r : List UInt8} {acc : List (UInt8 × List UInt8)} {x : UInt8 × List UInt8} {n : Nat} (hf : (b :: r).length ≤ f) (h : ¬ acc.length = 200) (hF : firstS (b :: r) = (x, n, 0)) :
    readL f (b :: r) acc = readL (f - 1) ((b :: r).drop n) (acc ++ [x]) := by
  cases f with
  | zero => simp at hf
  | succ f => simp only [readL, if_neg h, hF]; rfl
theorem readL_end {f : Nat} {acc : List (UInt8 × List UInt8)} : readL f [] acc = (acc, 0) := by cases f <;> rfl

/-! ### SameItems -/
def sameB (l m : List It) : Bool := decide (l.map It.pair = m.map It.pair)

theorem same_no_len {l m : List It} (h : ¬ l.length = m.length) : sameB l m = false := by
  simp only [sameB, decide_eq_false_iff_not]
  intro e
  have := congrArg List.length e
  simp at this; exact h this
theorem same_no_at {l m : List It} {k : Nat} (hk : k < l.length) (hk2 : k < m.length) (h : ¬ l[k].pair = m[k].pair) : sameB l m = false := by
  simp only [sameB, decide_eq_false_iff_not]
  intro e
  have h1 : (l.map It.pair)[k]? = (m.map It.pair)[k]? := by rw [e]
  simp [hk, hk2] at h1
  exact h h1

/-! ### The law -/
theorem Its.single {w : World} {B : Nat} {t : UInt8} {A : Option Addr} {c : Nat} {b : List UInt8} {g : Nat} (hg : w.heap[g]? = some (.cells #[u8v t, .slice A b.length c] 71)) (hB : g < B) (hr : Rd w B A (bytesV b)) (hc : b.length ≤ c ∧ c ≤ maxLen) :
    Its w B (some ⟨g, 0, none⟩) [⟨t, A, c, b⟩] := by
  refine ⟨?_, fun x hx => ?_⟩
  · exact Rd.of_blk hg hB
  · obtain rfl : x = ⟨t, A, c, b⟩ := by simpa using hx
    exact ⟨hr, hc⟩

end Go.Proofs.YtdlmamnnamlleaaDoor
