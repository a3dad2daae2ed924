/- Contracts of package attr's find, Get and Is, of package rule's Hidden, See and May, and of the document's FirstOf and Veiled. -/
import Derived.Test.YtakooljbkjnilaaAttr
namespace Go.Proofs.Ytakooljbkjnilaa
open Go.ChangeShapes Go.WideShapes Go.ChangeAt Go.RowKit
set_option maxHeartbeats 1000000
set_option maxRecDepth 100000
attribute [local go_sem] kp_refl kp_alloc kp_setCell kp_drew kp_drewN row_new row_old rowAt_new rowAt_old

theorem below_alloc' (w : World) (o : Obj) : Below w.heap.size w (w.alloc o) := (Below.refl _ _).alloc (Nat.le_refl _) o
theorem find_has (A : Option Addr) (l : List At) (c i : Nat) (k : Int) (w : World) (h : Ats w w.heap.size A l) (hl : l.length ≤ 9223372036854775807) (hi : Has l k i) :
    Calls Try.prog 35 #[.slice A l.length c, .int .i64 k] w (FindR i w) := by
  have hmf : ∀ (fn : Fn) (first cap : Array Value) (w : World), (Instr.makeFunc fn first cap).run Try.prog w = .ok (.func fn first cap) w := fun _ _ _ _ => rfl
  have h' := h.step (below_alloc' w (.cells #[.int .i64 k] 3))
  have hc : (w.alloc (.cells #[.int .i64 k] 3)).cell? ⟨w.heap.size, 0, none⟩ = some (.int .i64 k) := by
    rw [World.cell?_alloc_at _ _ _ _ rfl]; rfl
  go_enter Try.func35, Try.ntmps35
  go_wp2_with fail
  refine (index_has A l c i k w.heap.size _ h' hl hc (by simp) hi).mono ?_
  rintro e w' ⟨rfl, hb⟩
  have hb' := (below_alloc' w (.cells #[.int .i64 k] 3)).trans (hb.mono (by simp))
  clear hb hc h'
  go_wp2
  go_ret
  exact ⟨rfl, hb'⟩
theorem find_hasnt (A : Option Addr) (l : List At) (c : Nat) (k : Int) (w : World) (h : Ats w w.heap.size A l) (hl : l.length ≤ 9223372036854775807) (hi : Hasnt l k) :
    Calls Try.prog 35 #[.slice A l.length c, .int .i64 k] w (FindR (-1) w) := by
  have hmf : ∀ (fn : Fn) (first cap : Array Value) (w : World), (Instr.makeFunc fn first cap).run Try.prog w = .ok (.func fn first cap) w := fun _ _ _ _ => rfl
  have h' := h.step (below_alloc' w (.cells #[.int .i64 k] 3))
  have hc : (w.alloc (.cells #[.int .i64 k] 3)).cell? ⟨w.heap.size, 0, none⟩ = some (.int .i64 k) := by
    rw [World.cell?_alloc_at _ _ _ _ rfl]; rfl
  go_enter Try.func35, Try.ntmps35
  go_wp2_with fail
  refine (index_hasnt A l c k w.heap.size _ h' hl hc (by simp) hi).mono ?_
  rintro e w' ⟨rfl, hb⟩
  have hb' := (below_alloc' w (.cells #[.int .i64 k] 3)).trans (hb.mono (by simp))
  clear hb hc h'
  go_wp2
  go_ret
  exact ⟨rfl, hb'⟩

/-! Clone, Get, Is -/
theorem SB1 : SlT Try.prog 66 5 1 1 := SlT.mk' Try.underlying66 (by kernel_rfl) (by omega)
def BytesR (l : List UInt8) (w : World) (v : Value) (w' : World) : Prop := ∃ A c, v = .slice A l.length c ∧ Rd w' w'.heap.size A (bytesV l) ∧ l.length ≤ c ∧ c ≤ 9223372036854775807 ∧ Below w.heap.size w w'
def CloneR (l : List UInt8) (w : World) (e : Ending) (w' : World) : Prop := ∃ v, e = .returned v ∧ BytesR l w v w'
theorem Own.empty (w : World) (e : TypeId) : Own w w.heap.size e (.slice (some ⟨w.heap.size, 0, none⟩) 0 0) [] (w.alloc (.cells #[] e)) :=
  ⟨⟨rfl, .inr ⟨w.heap.size, 0, #[], rfl, Nat.le_refl _, push_new _ _, Nat.le_refl _, by unfold maxLen; omega, rfl, rfl⟩⟩, (Below.refl _ _).alloc (Nat.le_refl _) _, by simp⟩
theorem bytes_clone (A : Option Addr) (l : List UInt8) (c : Nat) (w : World) (h : Rd w w.heap.size A (bytesV l)) (hl : l.length ≤ 140737488351232) :
    Calls Try.prog 27 #[.slice A l.length c] w (CloneR l w) := by
  cases A with
  | none =>
    have hn : l = [] := by
      cases l with
      | nil => rfl
      | cons b r => obtain ⟨ad, h1, -⟩ := h 0 _ rfl; cases h1
    subst hn
    have hq : ∀ W : World, (binOp .eql 66 (.slice none 0 c) (.slice none 0 0)).run Try.prog W = .ok (.bool true) W := fun W => run_eql_nil_slice W _ _ none 0 0 0 c Try.underlying66
    go_enter Try.func27, Try.ntmps27
    go_wp2
    go_ret
    exact ⟨_, rfl, none, 0, rfl, Rd.nil, by simp, by omega, Below.refl _ _⟩
  | some ad =>
    have hq : ∀ W : World, (binOp .eql 66 (.slice (some ad) l.length c) (.slice none 0 0)).run Try.prog W = .ok (.bool false) W := fun W => Lib.run_eql_slice_nil W _ _ (some ad) _ _ _ _ Try.underlying66
    have hr : Rd (w.alloc (.cells #[] 5)) w.heap.size (some ad) (bytesV l) := h.below (below_alloc' w _)
    have hO := Own.empty w 5
    go_enter Try.func27, Try.ntmps27
    go_wp2_with (at_builtin; refine wpList_own (o := ⟨some 7, _, _, _, _, _⟩) rfl (.tmp 5) (.tmp 6) 66 rfl SB1 rfl hO (news := bytesV l) (by rw [bytesV_length]; rfl) hr (bytesV_oneCell l) (by rw [bytesV_length]; unfold maxLen; simp; omega) (by rw [bytesV_length]; simp; omega) ?_; intro v1 w1 hO1 hg1 hat1; clear hg1 hat1)
    go_ret
    obtain ⟨A', c', e1, h2, h3⟩ := hO1.form
    rw [List.nil_append] at e1 h2 hO1
    rw [bytesV_length] at e1 h2
    subst e1
    exact ⟨_, rfl, A', c', rfl, hO1.rd, h2, h3, hO1.bel⟩

def GetR (l : List UInt8) (w : World) (e : Ending) (w' : World) : Prop := ∃ v, e = .returned (.tuple #[v, .bool true]) ∧ BytesR l w v w'
theorem BytesR.trans {l : List UInt8} {w w1 w2 : World} {v : Value} (h : BytesR l w1 v w2) (hb : Below w.heap.size w w1) : BytesR l w v w2 := by
  obtain ⟨A, c, e, h1, h2, h3, h4⟩ := h
  exact ⟨A, c, e, h1, h2, h3, hb.trans (h4.mono hb.size)⟩

theorem attr_Get_has (A : Option Addr) (l : List At) (c i : Nat) (k : Int) (w : World) (h : Ats w w.heap.size A l) (hl : l.length ≤ 9223372036854775807) (hi : Has l k i) :
    Calls Try.prog 29 #[.slice A l.length c, .int .i64 k] w (GetR (l[i]'hi.lt).body w) := by
  go_enter Try.func29, Try.ntmps29
  go_wp2_with fail
  refine (find_has A l c i k _ h hl hi).mono ?_
  rintro e w1 ⟨rfl, hb⟩
  have hil := hi.lt
  have h1 := h.step hb
  obtain ⟨ad, rfl, hbl, c1, c2⟩ := h1.at_ hi.lt
  obtain ⟨b1, b2, b3⟩ := h1.body _ (List.getElem_mem hi.lt)
  go_wp2_with (go_at_call 27; refine (bytes_clone _ l[i].body l[i].cap _ b1 (by omega)).mono ?_; rintro e w' ⟨v, rfl, hv⟩)
  go_ret2
  exact ⟨v, rfl, hv.trans hb⟩
theorem attr_Get_hasnt (A : Option Addr) (l : List At) (c : Nat) (k : Int) (w : World) (h : Ats w w.heap.size A l) (hl : l.length ≤ 9223372036854775807) (hi : Hasnt l k) :
    Calls Try.prog 29 #[.slice A l.length c, .int .i64 k] w fun e w' => e = .returned (.tuple #[.slice none 0 0, .bool false]) ∧ Below w.heap.size w w' := by
  go_enter Try.func29, Try.ntmps29
  go_wp2_with fail
  refine (find_hasnt A l c k _ h hl hi).mono ?_
  rintro e w1 ⟨rfl, hb⟩
  go_wp2
  go_ret2
  exact ⟨rfl, hb⟩

theorem attr_Is_hasnt (A : Option Addr) (l : List At) (c : Nat) (k : Int) (w : World) (h : Ats w w.heap.size A l) (hl : l.length ≤ 9223372036854775807) (hi : Hasnt l k) :
    Calls Try.prog 37 #[.slice A l.length c, .int .i64 k] w fun e w' => e = .returned (.bool false) ∧ Below w.heap.size w w' := by
  go_enter Try.func37, Try.ntmps37
  go_wp2_with fail
  refine (find_hasnt A l c k _ h hl hi).mono ?_
  rintro e w1 ⟨rfl, hb⟩
  go_wp2
  go_ret
  exact ⟨rfl, hb⟩
/-- Is a value 1? -/
def isOne (l : List UInt8) : Bool := l == [1]
theorem attr_Is_has' (A : Option Addr) (l : List At) (c i : Nat) (k : Int) (bd : List UInt8) (w : World) (h : Ats w w.heap.size A l) (hl : l.length ≤ 9223372036854775807) (hi : Has l k i) (hbd : (l[i]'hi.lt).body = bd) :
    Calls Try.prog 37 #[.slice A l.length c, .int .i64 k] w fun e w' => e = .returned (.bool (isOne bd)) ∧ Below w.heap.size w w' := by
  go_enter Try.func37, Try.ntmps37
  go_wp2_with fail
  refine (find_has A l c i k _ h hl hi).mono ?_
  rintro e w1 ⟨rfl, hb⟩
  have hil := hi.lt
  have h1 := h.step hb
  obtain ⟨ad, rfl, hbl, c1, c2⟩ := h1.at_ hi.lt
  obtain ⟨b1, b2, b3⟩ := h1.body _ (List.getElem_mem hi.lt)
  rw [hbd] at c2 b1 b2
  clear hbd c1
  generalize l[i].A = xA at *
  generalize l[i].cap = xc at *
  cases bd with
  | nil =>
    have hd : ((([] : List UInt8).length : Int) == 1) = false := rfl
    go_wp2
    go_ret
    exact ⟨rfl, hb⟩
  | cons b r =>
    cases r with
    | cons bb r =>
      have hd : (((b :: bb :: r).length : Int) == 1) = false := by simp; omega
      have hH := Lib.hid (show isOne (b :: bb :: r) = false by simp [isOne])
      go_wp2
      go_ret
      exact ⟨ret_bool (by rw [hH.out]), hb⟩
    | nil =>
      have hd : (([b].length : Int) == 1) = true := rfl
      obtain ⟨xd, rfl, hxb, cx⟩ := b1.at_ (k := 0) (by simp [bytesV])
      have cx' : w1.cell? xd = some (.int .u8 b.toNat) := by simpa [bytesV, Addr.add] using cx
      have hH := Lib.hid (show isOne [b] = ((b.toNat : Int) == 1) by
        have : (b = 1) = (b.toNat = 1) := by rw [← UInt8.toNat_inj]; rfl
        rw [Bool.eq_iff_iff]
        simp [isOne, this]
        omega)
      go_wp2
      go_ret
      exact ⟨ret_bool (by rw [hH.out]), hb⟩
theorem attr_Is_has (A : Option Addr) (l : List At) (c i : Nat) (k : Int) (w : World) (h : Ats w w.heap.size A l) (hl : l.length ≤ 9223372036854775807) (hi : Has l k i) :
    Calls Try.prog 37 #[.slice A l.length c, .int .i64 k] w fun e w' => e = .returned (.bool (isOne (l[i]'hi.lt).body)) ∧ Below w.heap.size w w' :=
  attr_Is_has' A l c i k _ w h hl hi rfl

/-! One word for all cases: what is found of a kind. -/
def look (l : List At) (k : Int) : Option (List UInt8) := (l.find? fun x => x.kind == k).map (·.body)
theorem look_has {l : List At} {k : Int} {i : Nat} (h : Has l k i) : look l k = some (l[i]'h.lt).body := by
  unfold look
  rw [List.find?_eq_some_iff_getElem.2 ⟨by simp [h.eq], i, h.lt, rfl, fun j hj => by simpa using h.ne j hj⟩]; rfl
theorem look_hasnt {l : List At} {k : Int} (h : Hasnt l k) : look l k = none := by
  unfold look
  rw [List.find?_eq_none.2 fun x hx => by obtain ⟨j, hj, rfl⟩ := List.getElem_of_mem hx; simpa using h j hj]; rfl
theorem look_some {l : List At} {k : Int} {b : List UInt8} (h : look l k = some b) : ∃ i, ∃ h : Has l k i, (l[i]'h.lt).body = b := by
  rcases has_or l k with ⟨i, hi⟩ | hn
  · rw [look_has hi] at h; injection h with h; exact ⟨i, hi, h⟩
  · rw [look_hasnt hn] at h; cases h
theorem look_none {l : List At} {k : Int} (h : look l k = none) : Hasnt l k := by
  rcases has_or l k with ⟨i, hi⟩ | hn
  · rw [look_has hi] at h; cases h
  · exact hn
def lookOne (l : List At) (k : Int) : Bool := look l k == some [1]

section
variable (A : Option Addr) (l : List At) (c : Nat) (k : Int) (w : World) (h : Ats w w.heap.size A l) (hl : l.length ≤ 9223372036854775807)
include h hl
theorem get_some {b : List UInt8} (hb : look l k = some b) : Calls Try.prog 29 #[.slice A l.length c, .int .i64 k] w (GetR b w) := by
  obtain ⟨i, hi, rfl⟩ := look_some hb
  exact attr_Get_has A l c i k w h hl hi
theorem get_none (hb : look l k = none) : Calls Try.prog 29 #[.slice A l.length c, .int .i64 k] w fun e w' => e = .returned (.tuple #[.slice none 0 0, .bool false]) ∧ Below w.heap.size w w' :=
  attr_Get_hasnt A l c k w h hl (look_none hb)
theorem is_any : Calls Try.prog 37 #[.slice A l.length c, .int .i64 k] w fun e w' => e = .returned (.bool (lookOne l k)) ∧ Below w.heap.size w w' := by
  cases hb : look l k with
  | none =>
    have e : lookOne l k = false := by simp [lookOne, hb]
    rw [e]; exact attr_Is_hasnt A l c k w h hl (look_none hb)
  | some b =>
    obtain ⟨i, hi, he⟩ := look_some hb
    have e : lookOne l k = isOne b := by unfold lookOne isOne; rw [hb]; rfl
    rw [e]; exact attr_Is_has' A l c i k b w h hl hi he
end
end Go.Proofs.Ytakooljbkjnilaa
