/- slices.Contains over ints; package rule's bit and missing. -/
import Derived.Test.YtakooljbkjnilaaRu13
namespace Go.Proofs.Ytakooljbkjnilaa
open Go.ChangeShapes Go.WideShapes Go.ChangeAt Go.RowKit
set_option maxHeartbeats 1000000
set_option maxRecDepth 100000
attribute [local go_sem] kp_refl kp_alloc kp_setCell kp_drew kp_drewN row_new row_old rowAt_new rowAt_old

def hasInt (ks : List Nat) (k : Int) : Bool := ks.any fun x : Nat => (x : Int) == k
def fstInt (ks : List Nat) (k : Int) : Int := match ks.findIdx? fun x : Nat => (x : Int) == k with | some i => (i : Int) | none => -1
theorem fstInt_some {ks : List Nat} {k : Int} {i : Nat} (hi : i < ks.length) (h : ((ks[i] : Nat) : Int) = k) (hn : ∀ j (hj : j < i), ((ks[j]'(by omega) : Nat) : Int) ≠ k) : fstInt ks k = i := by
  unfold fstInt
  rw [List.findIdx?_eq_some_iff_getElem.2 ⟨hi, by simpa using h, fun j hj => by simpa using hn j hj⟩]
theorem fstInt_none {ks : List Nat} {k : Int} (hn : ∀ j (hj : j < ks.length), ((ks[j] : Nat) : Int) ≠ k) : fstInt ks k = -1 := by
  unfold fstInt
  rw [List.findIdx?_eq_none_iff.2 fun x hx => by obtain ⟨j, hj, rfl⟩ := List.getElem_of_mem hx; simpa using hn j hj]
theorem fstInt_has (ks : List Nat) (k : Int) : decide (0 ≤ fstInt ks k) = hasInt ks k := by
  unfold fstInt hasInt
  cases h : ks.findIdx? fun x : Nat => (x : Int) == k with
  | none =>
    have h2 := List.findIdx?_eq_none_iff.1 h
    symm
    simp only [show ¬ (0 : Int) ≤ -1 by omega, decide_false]
    rw [List.any_eq_false]
    intro x hx
    simpa using h2 x hx
  | some i =>
    obtain ⟨hi, h2, -⟩ := List.findIdx?_eq_some_iff_getElem.1 h
    symm
    simp only [show (0 : Int) ≤ (i : Int) by omega, decide_true]
    rw [List.any_eq_true]
    exact ⟨_, List.getElem_mem hi, h2⟩
section
variable (K : Option Addr) (ks : List Nat) (kc : Nat) (k : Int) (w : World) (hk : Rd w w.heap.size K (kndV ks)) (hkl : ks.length ≤ 100)
include hk hkl
end

/-! Clone, Get: where the copy lies -/
def BytesF (l : List UInt8) (w : World) (v : Value) (w' : World) : Prop := ∃ A c, v = .slice A l.length c ∧ Rd w' w'.heap.size A (bytesV l) ∧ l.length ≤ c ∧ c ≤ 9223372036854775807 ∧ Below w.heap.size w w' ∧ ∀ a, A = some a → w.heap.size ≤ a.block ∧ a.block < w'.heap.size
def CloneF (l : List UInt8) (w : World) (e : Ending) (w' : World) : Prop := ∃ v, e = .returned v ∧ BytesF l w v w'
theorem BytesF.trans {l : List UInt8} {w w1 w2 : World} {v : Value} (h : BytesF l w1 v w2) (hb : Below w.heap.size w w1) : BytesF l w v w2 := by
  obtain ⟨A, c, e, h1, h2, h3, h4, h5⟩ := h
  exact ⟨A, c, e, h1, h2, h3, hb.trans (h4.mono hb.size), fun a ha => ⟨Nat.le_trans hb.size (h5 a ha).1, (h5 a ha).2⟩⟩
theorem BytesF.step {l : List UInt8} {w w1 w2 : World} {v : Value} (h : BytesF l w v w1) (hb : Below w1.heap.size w1 w2) : BytesF l w v w2 := by
  obtain ⟨A, c, e, h1, h2, h3, h4, h5⟩ := h
  exact ⟨A, c, e, (h1.below hb).more hb.size, h2, h3, h4.trans (hb.mono h4.size), fun a ha => ⟨(h5 a ha).1, Nat.lt_of_lt_of_le (h5 a ha).2 hb.size⟩⟩
theorem bytesF_nil {w w' : World} (hb : Below w.heap.size w w') : BytesF [] w (.slice none 0 0) w' := ⟨none, 0, rfl, Rd.nil, by simp, by omega, hb, fun a ha => by cases ha⟩
theorem own_addr {w : World} {B : Nat} {e : TypeId} {size n m c : Nat} {xs : List Value} {a : Addr} (h : w.ownsRow B e size (.slice (some a) n c) m xs) : B ≤ a.block ∧ a.block < w.heap.size := by
  have h2 := h.lt
  rcases h.2 with ⟨h1, -⟩ | ⟨g, cap, cur, h1, -⟩
  · cases h1
  · injection h1 with h1
    injection h1 with h1
    subst h1
    exact h2 g rfl
theorem bytes_cloneF (A : Option Addr) (l : List UInt8) (c : Nat) (w : World) (h : Rd w w.heap.size A (bytesV l)) (hl : l.length ≤ 140737488351232) :
    Calls Try.prog 27 #[.slice A l.length c] w (CloneF l w) := by
  cases A with
  | none =>
    have hn : l = [] := by
      cases l with
      | nil => rfl
      | cons b r => obtain ⟨ad, h1, -⟩ := h 0 _ rfl; cases h1
    subst hn
    have hq : ∀ W : World, (binOp .eql 66 (.slice none 0 c) (.slice none 0 0)).run Try.prog W = .ok (.bool true) W := fun W => run_eql_nil_slice W _ _ none 0 0 0 c Try.underlying66
    go_enter Try.func27, Try.ntmps27
    go_wp2
    go_ret
    exact ⟨_, rfl, bytesF_nil (Below.refl _ _)⟩
  | some ad =>
    have hq : ∀ W : World, (binOp .eql 66 (.slice (some ad) l.length c) (.slice none 0 0)).run Try.prog W = .ok (.bool false) W := fun W => Lib.run_eql_slice_nil W _ _ (some ad) _ _ _ _ Try.underlying66
    have hr : Rd (w.alloc (.cells #[] 5)) w.heap.size (some ad) (bytesV l) := h.below (below_alloc' w _)
    have hO := Own.empty w 5
    go_enter Try.func27, Try.ntmps27
    go_wp2_with (at_builtin; refine wpList_own (o := ⟨some 7, _, _, _, _, _⟩) rfl (.tmp 5) (.tmp 6) 66 rfl SB1 rfl hO (news := bytesV l) (by rw [bytesV_length]; rfl) hr (bytesV_oneCell l) (by rw [bytesV_length]; unfold maxLen; simp; omega) (by rw [bytesV_length]; simp; omega) ?_; intro v1 w1 hO1 hg1 hat1; clear hg1 hat1)
    go_ret
    obtain ⟨A', c', e1, h2, h3⟩ := hO1.form
    rw [List.nil_append] at e1 h2 hO1
    rw [bytesV_length] at e1 h2
    subst e1
    exact ⟨_, rfl, A', c', rfl, hO1.rd, h2, h3, hO1.bel, fun a ha => by subst ha; exact own_addr hO1.own⟩
theorem get_someF (A : Option Addr) (l : List At) (c : Nat) (k : Int) (w : World) (h : Ats w w.heap.size A l) (hl : l.length ≤ 9223372036854775807) {b : List UInt8} (hlk : look l k = some b) :
    Calls Try.prog 29 #[.slice A l.length c, .int .i64 k] w fun e w' => ∃ v, e = .returned (.tuple #[v, .bool true]) ∧ BytesF b w v w' := by
  obtain ⟨i, hi, hbd⟩ := look_some hlk
  go_enter Try.func29, Try.ntmps29
  go_wp2_with fail
  refine (find_has A l c i k _ h hl hi).mono ?_
  rintro e w1 ⟨rfl, hb⟩
  have hil := hi.lt
  have h1 := h.step hb
  obtain ⟨ad, rfl, hbl, c1, c2⟩ := h1.at_ hi.lt
  obtain ⟨b1, b2, b3⟩ := h1.body _ (List.getElem_mem hi.lt)
  subst hbd
  go_wp2_with (go_at_call 27; refine (bytes_cloneF _ l[i].body l[i].cap _ b1 (by omega)).mono ?_; rintro e w' ⟨v, rfl, hv⟩)
  go_ret2
  exact ⟨v, rfl, hv.trans hb⟩

/-! bit, missing -/
def missP (l : List At) (k : Int) (cls : Nat) (loc : Bool) : List UInt8 :=
  if k = 2 ∨ k = 3 then []
  else if k = 6 then flagB (cls == 2 || cls == 4)
  else if k = 7 ∨ k = 9 then flagB true
  else if k = 12 then flagB loc
  else if k = 10 then flagB (loc && lookOne l 8)
  else if k = 11 then flagB (loc && ((look l 9).isSome && !lookOne l 9))
  else flagB false
/-- A Get whose value is not looked at. -/
theorem get_any (A : Option Addr) (l : List At) (c : Nat) (k : Int) (w : World) (h : Ats w w.heap.size A l) (hl : l.length ≤ 9223372036854775807) : Calls Try.prog 29 #[.slice A l.length c, .int .i64 k] w fun e w' => ∃ A' n' c', e = .returned (.tuple #[.slice A' n' c', .bool (look l k).isSome]) ∧ Below w.heap.size w w' := by
  cases hk : look l k with
  | none => exact (get_none A l c k w h hl hk).mono fun e w' ⟨he, hb⟩ => ⟨none, 0, 0, he, hb⟩
  | some b => exact (get_some A l c k w h hl hk).mono fun e w' ⟨v, he, A', c', hv, _, _, _, hb⟩ => ⟨A', b.length, c', by rw [he, hv]; rfl, hb⟩
end Go.Proofs.Ytakooljbkjnilaa
