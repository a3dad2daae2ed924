/- Lists of attributes: what is wrong with one; slices of attributes of the call's own. -/
import Derived.Test.YtakooljbkjnilaaAttr3
import Derived.Test.YtakooljbkjnilaaMem2
import Derived.Deep.DeepMust
namespace Go.Proofs.Ytakooljbkjnilaa
open Go.ChangeShapes Go.WideShapes Go.ChangeAt Go.RowKit
set_option maxHeartbeats 1000000
set_option maxRecDepth 100000
attribute [local go_sem] kp_refl kp_alloc kp_setCell kp_drew kp_drewN row_new row_old rowAt_new rowAt_old

/-- An attribute: its kind, its value. -/
abbrev KV := Int × List UInt8
def At.kv (x : At) : KV := (x.kind, x.body)
def headB (b : List UInt8) : Nat := (b.headD 0).toNat
/-- A value of its kind? -/
def fitsB (x : KV) : Bool :=
  if x.1 = 1 then x.2.length == 1 && (decide (1 ≤ headB x.2) && decide (headB x.2 ≤ 4))
  else if x.1 = 2 ∨ x.1 = 3 then decide (x.2.length ≤ 32)
  else if x.1 = 4 then decide (x.2.length ≤ 64)
  else x.2.length == 1 && decide (headB x.2 ≤ 1)
def seenK (pre : List KV) (k : Int) : Bool := pre.any fun y => y.1 == k
/-- What is wrong with an attribute behind others. -/
def faultAt (pre : List KV) (x : KV) : Int := if x.1 < 1 ∨ 18 < x.1 then 13 else if fitsB x = false then 4 else if seenK pre x.1 = true then 1 else 0
def faultL : List KV → List KV → Int
  | _, [] => 0
  | pre, x :: r => if faultAt pre x = 0 then faultL (pre ++ [x]) r else faultAt pre x
/-- What is wrong with a list? -/
def fault (l : List KV) : Int := if 24 < l.length then 2 else faultL [] l

theorem faultL_stop (z : Int) (hz : z ≠ 0) : ∀ (j : Nat) (pre l : List KV) (hj : j < l.length), (∀ i (h : i < j), faultAt (pre ++ l.take i) (l[i]'(by omega)) = 0) → faultAt (pre ++ l.take j) l[j] = z → faultL pre l = z := by
  intro j
  induction j with
  | zero =>
    intro pre l hj _ h
    cases l with
    | nil => simp at hj
    | cons x r =>
      simp only [List.take_zero, List.append_nil, List.getElem_cons_zero] at h
      simp only [faultL]
      rw [h, if_neg hz]
  | succ j ih =>
    intro pre l hj h0 h
    cases l with
    | nil => simp at hj
    | cons x r =>
      have h1 := h0 0 (by omega)
      simp only [List.take_zero, List.append_nil, List.getElem_cons_zero] at h1
      simp only [faultL]
      rw [if_pos h1]
      refine ih (pre ++ [x]) r (by simp at hj; omega) (fun i hi => ?_) ?_
      · have h2 := h0 (i + 1) (by omega)
        simpa using h2
      · simpa using h
theorem faultL_none : ∀ (pre l : List KV), (∀ i (h : i < l.length), faultAt (pre ++ l.take i) l[i] = 0) → faultL pre l = 0 := by
  intro pre l
  induction l generalizing pre with
  | nil => intro _; rfl
  | cons x r ih =>
    intro h
    have h1 := h 0 (by simp)
    simp only [List.take_zero, List.append_nil, List.getElem_cons_zero] at h1
    simp only [faultL]
    rw [if_pos h1]
    refine ih _ fun i hi => ?_
    have h2 := h (i + 1) (by simp; omega)
    simpa using h2
/-- Till number j nothing is wrong. -/
def goodTo (l : List KV) (j : Nat) : Prop := ∀ i (h : i < j) (h2 : i < l.length), faultAt (l.take i) l[i] = 0
theorem goodTo.zero (l : List KV) : goodTo l 0 := fun i h => absurd h (by omega)
theorem goodTo.step {l : List KV} {j : Nat} (h : goodTo l j) (hj : j < l.length) (hx : faultAt (l.take j) l[j] = 0) : goodTo l (j + 1) := fun i hi h2 => by
  rcases Nat.lt_or_ge i j with h3 | h3
  · exact h i h3 h2
  · obtain rfl : i = j := by omega
    exact hx
theorem goodTo.stop {l : List KV} {j : Nat} (h : goodTo l j) (hl : l.length ≤ 24) (hj : j < l.length) {z : Int} (hz : z ≠ 0) (hx : faultAt (l.take j) l[j] = z) : fault l = z := by
  unfold fault
  rw [if_neg (by omega)]
  exact faultL_stop z hz j [] l hj (fun i hi => by simpa using h i hi (by omega)) (by simpa using hx)
theorem goodTo.all {l : List KV} (h : goodTo l l.length) (hl : l.length ≤ 24) : fault l = 0 := by
  unfold fault
  rw [if_neg (by omega)]
  exact faultL_none [] l fun i hi => by simpa using h i hi hi
theorem fault_large {l : List KV} (h : 24 < l.length) : fault l = 2 := by unfold fault; rw [if_pos h]

theorem seenK_snoc (pre : List KV) (x : KV) (k : Int) : seenK (pre ++ [x]) k = (seenK pre k || x.1 == k) := by simp [seenK]
theorem kv_get (l : List At) {j : Nat} (h : j < l.length) : (l.map At.kv)[j]'(by simpa using h) = (l[j].kind, l[j].body) := by simp [At.kv]

/-! Slices of attributes that are the call's own. -/
structure AtsOwn (B : Nat) (w : World) (v : Value) (l : List At) : Prop where
  own : w.ownsRow B 68 2 v l.length (l.flatMap At.cells)
  body : ∀ x ∈ l, Rd w w.heap.size x.A (bytesV x.body) ∧ x.body.length ≤ x.cap ∧ (x.cap ≤ 9223372036854775807 ∧ x.body.length ≤ 140737488351232) ∧ ∀ a, x.A = some a → a.block < w.heap.size ∧ some a.block ≠ v.ownBlock
theorem rd_grownA {w w' : World} {B : Nat} {A : Option Addr} {xs : List Value} {row : Option Nat} (h : Rd w B A xs) (hg : w.grownBy w' row) (hB : B ≤ w.heap.size) (hne : ∀ a, A = some a → some a.block ≠ row) : Rd w' B A xs := fun j u hu => by
  obtain ⟨ad, e, hl, hc⟩ := h j u hu
  exact ⟨ad, e, hl, (World.cell?_of_block (hg.block (ad.add j).block (by rw [addr_block]; omega) (by rw [addr_block]; exact hne ad e))).trans hc⟩
theorem AtsOwn.nil (B : Nat) (w : World) : AtsOwn B w (.slice none 0 0) [] := ⟨World.ownsRow_nil _ _ _ _, fun x hx => by simp at hx⟩
theorem own_belowA {w w1 : World} {B : Nat} {e : TypeId} {size n : Nat} {v : Value} {xs : List Value} (h : w.ownsRow B e size v n xs) (hb : Below w.heap.size w w1) : w1.ownsRow B e size v n xs := by
  refine h.kept (row := none) ⟨hb.os, hb.tape, hb.output, hb.size, fun i hi _ => hb.block i hi⟩ ?_
  cases v.ownBlock with
  | none => exact .inl rfl
  | some g => exact .inr (by simp)
theorem AtsOwn.below {B : Nat} {w w1 : World} {v : Value} {l : List At} (I : AtsOwn B w v l) (h : Below w.heap.size w w1) : AtsOwn B w1 v l :=
  ⟨own_belowA I.own h, fun x hx => by
    obtain ⟨r1, r2, r3, r4⟩ := I.body x hx
    have := h.size
    exact ⟨(r1.below h).more this, r2, r3, fun a ha => ⟨by have := (r4 a ha).1; omega, (r4 a ha).2⟩⟩⟩
theorem AtsOwn.step {B : Nat} {w W w2 : World} {v v2 : Value} {l : List At} {x : At} (I : AtsOwn B w v l) (hx : Rd w w.heap.size x.A (bytesV x.body)) (hc : x.body.length ≤ x.cap ∧ (x.cap ≤ 9223372036854775807 ∧ x.body.length ≤ 140737488351232))
    (hfar : ∀ a, x.A = some a → a.block < w.heap.size ∧ some a.block ≠ v.ownBlock) (h2 : Below w.heap.size w W) (hg : W.grownBy w2 v.ownBlock) (hat : v2.ownBlock = v.ownBlock ∨ v2.ownBlock = some W.heap.size)
    (hown : w2.ownsRow B 68 2 v2 (l.length + 1) (l.flatMap At.cells ++ x.cells)) : AtsOwn B w2 v2 (l ++ [x]) := by
  have hv : ∀ g, v.ownBlock = some g → g < w.heap.size := fun g hg => (I.own.lt g hg).2
  have hs2 := h2.size
  have hs3 := hg.size
  refine ⟨by simpa using hown, fun y hy => ?_⟩
  have key : Rd w w.heap.size y.A (bytesV y.body) ∧ y.body.length ≤ y.cap ∧ (y.cap ≤ 9223372036854775807 ∧ y.body.length ≤ 140737488351232) ∧ ∀ a, y.A = some a → a.block < w.heap.size ∧ some a.block ≠ v.ownBlock := by
    rcases List.mem_append.1 hy with hy | hy
    · exact I.body y hy
    · have hyx : y = x := by simpa using hy
      subst hyx
      exact ⟨hx, hc.1, hc.2, hfar⟩
  obtain ⟨r1, r2, r3, r4⟩ := key
  refine ⟨?_, r2, r3, fun a ha => ⟨by have := (r4 a ha).1; omega, ?_⟩⟩
  · exact (rd_grownA (r1.below h2) hg (by omega) (fun a ha => (r4 a ha).2)).more (by omega)
  · rcases hat with e | e
    · rw [e]; exact (r4 a ha).2
    · rw [e]
      intro e2
      injection e2 with e2
      have := (r4 a ha).1
      omega
theorem own_formA {wr : World} {B : Nat} {e : TypeId} {size n : Nat} {v : Value} {xs : List Value} (h : wr.ownsRow B e size v n xs) : ∃ A c, v = .slice A n c := by
  rcases h.2 with ⟨h1, h2⟩ | ⟨g, cap, cur, h1, _⟩
  · exact ⟨none, 0, by rw [h1, h2]⟩
  · exact ⟨_, _, h1⟩
theorem AtsOwn.ats {B : Nat} {w : World} {v : Value} {l : List At} (h : AtsOwn B w v l) : ∃ A c, v = .slice A l.length c ∧ (l.length ≤ c ∧ c ≤ 9223372036854775807) ∧ Ats w w.heap.size A l := by
  have hform : ∃ A c, v = .slice A l.length c ∧ (l.length ≤ c ∧ c ≤ 9223372036854775807) := by
    rcases h.own.2 with ⟨h1, h2⟩ | ⟨g, cap, cur, h1, _, _, h2, h3, _⟩
    · exact ⟨none, 0, by rw [h1, h2], by omega, by omega⟩
    · exact ⟨_, _, h1, h2, by unfold maxLen at h3; omega⟩
  obtain ⟨A, c, rfl, hc⟩ := hform
  exact ⟨A, c, rfl, hc, Rd.of_own h.own, fun x hx => ⟨(h.body x hx).1, (h.body x hx).2.1, (h.body x hx).2.2.1⟩⟩
/-- A list of attributes that a call has made (or nil), which says so-and-so. -/
def AtsR (s : List KV) (w : World) (v : Value) (w' : World) : Prop := ∃ A l c, v = .slice A l.length c ∧ (l.length ≤ c ∧ c ≤ 9223372036854775807) ∧ l.map At.kv = s ∧ Ats w' w'.heap.size A l ∧ Below w.heap.size w w'
theorem AtsR.nil {w w' : World} (hb : Below w.heap.size w w') : AtsR [] w (.slice none 0 0) w' := ⟨none, [], 0, rfl, ⟨by simp, by omega⟩, rfl, ⟨Rd.nil, fun x hx => by simp at hx⟩, hb⟩
theorem AtsOwn.res {B : Nat} {w0 w : World} {v : Value} {l : List At} {s : List KV} (h : AtsOwn B w v l) (hs : l.map At.kv = s) (hb : Below w0.heap.size w0 w) : AtsR s w0 v w := by
  obtain ⟨A, c, rfl, hc, h2⟩ := h.ats
  exact ⟨A, l, c, rfl, hc, hs, h2, hb⟩
def AtsErr (s : List KV) (z : Int) (w : World) (e : Ending) (w' : World) : Prop := ∃ v, e = .returned (.tuple #[v, .int .i64 z]) ∧ AtsR s w v w'

/-! fits -/
end Go.Proofs.Ytakooljbkjnilaa
