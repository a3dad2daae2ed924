/- Contracts of package rule's Hidden, See and May, and of the document's FirstOf and Veiled. -/
import Derived.Test.YtakooljbkjnilaaAttr2
import Derived.Laws.StructEq
namespace Go.Proofs.Ytakooljbkjnilaa
open Go.ChangeShapes Go.WideShapes Go.ChangeAt Go.RowKit
set_option maxHeartbeats 1000000
set_option maxRecDepth 100000
attribute [local go_sem] kp_refl kp_alloc kp_setCell kp_drew kp_drewN row_new row_old rowAt_new rowAt_old

def hidden (l : List At) : Bool := lookOne l 8 || ((look l 9).isSome && !lookOne l 9)
def seeErr (l : List At) (k : Int) : Int := if look l k = none then 13 else if k = 4 ∧ hidden l = true then 12 else 0
def seeBody (l : List At) (k : Int) : List UInt8 := if look l k = none then [] else if k = 4 ∧ hidden l = true then [] else (look l k).getD []
def SeeR (l : List At) (k : Int) (w : World) (e : Ending) (w' : World) : Prop := ∃ v, e = .returned (.tuple #[v, .int .i64 (seeErr l k)]) ∧ BytesR (seeBody l k) w v w'
def mayErr (l : List At) (k : Int) : Int := if look l k = none ∨ k < 13 ∨ 18 < k then 13 else if lookOne l k = true then 0 else 12
def FirstR (l : List At) (k : Int) (w : World) (e : Ending) (w' : World) : Prop := e = .returned (.tuple #[.string ⟨((look l k).getD []).toArray⟩, .bool (look l k).isSome]) ∧ Below w.heap.size w w'
theorem tup_any {a b : Value} {c d : Value} (h : a = b) (h' : c = d) : Ending.returned (.tuple #[a, c]) = .returned (.tuple #[b, d]) := by rw [h, h']

theorem hidden_eq (l : List At) : hidden l = (((look l 8).getD [] == [1]) || ((look l 9).isSome && !((look l 9).getD [] == [1]))) := by
  have h : ∀ k, (look l k).isSome = true → lookOne l k = ((look l k).getD [] == [1]) := fun k hk => by
    unfold lookOne
    cases hl : look l k with
    | none => rw [hl] at hk; cases hk
    | some b => rfl
  have h8 : lookOne l 8 = ((look l 8).getD [] == [1]) := by
    unfold lookOne
    cases look l 8 <;> rfl
  unfold hidden
  rw [h8]
  cases h9 : (look l 9).isSome with
  | false => rfl
  | true => rw [h 9 h9]
theorem ref_flag1 (w : World) : Calls Try.prog 28 #[.bool true] w fun e w' => e = .returned (.string ⟨([1] : List UInt8).toArray⟩) ∧ w = w' := by
  go_enter Try.func28, Try.ntmps28
  go_wp2
  go_ret
  exact ⟨rfl, rfl⟩

section
variable (A : Option Addr) (l : List At) (c : Nat) (w : World) (h : Ats w w.heap.size A l) (hl : l.length ≤ 9223372036854775807)
include h hl
theorem rule_Hidden : Calls Try.prog 31 #[.slice A l.length c] w fun e w' => e = .returned (.bool (hidden l)) ∧ Below w.heap.size w w' := by
  cases h9 : look l 9 with
  | none =>
    have hh : hidden l = lookOne l 8 := by simp [hidden, h9]
    have hH := Lib.hid hh
    have h9' := Lib.hid h9
    clear hh h9
    go_enter Try.func31, Try.ntmps31
    go_wp2_with fail
    refine (get_none A l c 9 _ h hl h9'.out).mono ?_
    rintro e w1 ⟨rfl, hb1⟩
    go_wp2_with fail
    refine (is_any A l c 8 _ (h.step hb1) hl).mono ?_
    rintro e w2 ⟨rfl, hb2⟩
    have hb := hb1.trans (hb2.mono hb1.size)
    cases h8 : lookOne l 8 <;> (rw [h8] at hH; go_wp2; go_ret; exact ⟨ret_bool hH.out.symm, hb⟩)
  | some b =>
    have hh : hidden l = (lookOne l 8 || !lookOne l 9) := by simp [hidden, h9]
    have hH := Lib.hid hh
    have h9' := Lib.hid h9
    clear hh h9
    go_enter Try.func31, Try.ntmps31
    go_wp2_with fail
    refine (get_some A l c 9 _ h hl h9'.out).mono ?_
    rintro e w1 ⟨v, rfl, _, _, rfl, _, _, _, hb1⟩
    go_wp2_with fail
    refine (is_any A l c 8 _ (h.step hb1) hl).mono ?_
    rintro e w2 ⟨rfl, hb2⟩
    have hb := hb1.trans (hb2.mono hb1.size)
    cases h8 : lookOne l 8
    · rw [h8] at hH
      go_wp2_with fail
      refine (is_any A l c 9 _ (h.step hb) hl).mono ?_
      rintro e w3 ⟨rfl, hb3⟩
      have hb' := hb.trans (hb3.mono hb.size)
      go_wp2
      go_ret
      exact ⟨ret_bool (by rw [hH.out]; simp), hb'⟩
    · rw [h8] at hH
      go_wp2
      go_ret
      exact ⟨ret_bool hH.out.symm, hb⟩

theorem ref_FirstOf (k : Int) : Calls Try.prog 19 #[.slice A l.length c, .int .i64 k] w (FirstR l k w) := by
  rcases has_or l k with ⟨i, hi⟩ | hn
  · have hL := Lib.hid (look_has hi)
    have hil := hi.lt
    go_enter Try.func19, Try.ntmps19
    go_wp2
    go_loopw [10] (fun x wr => ∃ j : Nat, x = .int .i64 j ∧ j ≤ i ∧ Below w.heap.size w wr ∧ w.heap.size ≤ wr.heap.size) (fun x _ => i + 1 - (intOf x).toNat)
    case atStart => exact ⟨0, rfl, by omega, Below.refl _ _, Nat.le_refl _⟩
    case round =>
      obtain ⟨j, rfl, hj, hb, hz⟩ := hrel
      have hw := h.kp (kp_of_below hb)
      obtain ⟨ad, rfl, hbl, c1, c2⟩ := hw.at_ (show j < l.length by omega)
      obtain ⟨b1, b2, b3⟩ := hw.body _ (List.getElem_mem (show j < l.length by omega))
      by_cases hji : j = i
      · subst hji
        have he := hi.eq
        have hkk : (l[j].kind == k) = true := by simp [he]
        have hcv : ∀ W : World, Kp w.heap.size wr W → (convert 66 9 (.slice l[j].A l[j].body.length l[j].cap)).run Try.prog W = .ok (.string ⟨l[j].body.toArray⟩) W := fun W hW => conv_rd Try.underlying66 Try.underlying5 Try.underlying9 (b1.kp hW)
        clear he
        go_wp2
        go_ret2
        exact ⟨tup_any (by rw [hL.out] <;> rfl) (by rw [hL.out] <;> rfl), by go_grown⟩
      · have hkk : (l[j].kind == k) = false := by simpa using hi.ne j (by omega)
        go_wp2
        go_roundw
        case rel => exact ⟨j + 1, by go_num, by omega, by go_grown, by simp; omega⟩
        case measure => simp [intOf]; omega
  · have hL := Lib.hid (look_hasnt hn)
    go_enter Try.func19, Try.ntmps19
    go_wp2
    go_loopw [10] (fun x wr => ∃ j : Nat, x = .int .i64 j ∧ j ≤ l.length ∧ Below w.heap.size w wr ∧ w.heap.size ≤ wr.heap.size) (fun x _ => l.length - (intOf x).toNat)
    case atStart => exact ⟨0, rfl, by omega, Below.refl _ _, Nat.le_refl _⟩
    case round =>
      obtain ⟨j, rfl, hj, hb, hz⟩ := hrel
      by_cases hji : j = l.length
      · subst hji
        go_wp2
        go_ret2
        exact ⟨tup_any (by rw [hL.out] <;> rfl) (by rw [hL.out] <;> rfl), hb⟩
      · obtain ⟨ad, rfl, hbl, c1, c2⟩ := (h.kp (kp_of_below hb)).at_ (show j < l.length by omega)
        have hkk : (l[j].kind == k) = false := by simpa using hn j (by omega)
        go_wp2
        go_roundw
        case rel => exact ⟨j + 1, by go_num, by omega, by go_grown, by simp; omega⟩
        case measure => simp [intOf]; omega

theorem ref_Veiled : Calls Try.prog 21 #[.slice A l.length c] w fun e w' => e = .returned (.bool (hidden l)) ∧ Below w.heap.size w w' := by
  go_enter Try.func21, Try.ntmps21
  go_wp2_with fail
  refine (ref_FirstOf A l c _ h hl 8).mono ?_
  rintro e w1 ⟨rfl, hb1⟩
  go_wp2_with fail
  refine (ref_FirstOf A l c _ (h.step hb1) hl 9).mono ?_
  rintro e w2 ⟨rfl, hb2⟩
  have hb := hb1.trans (hb2.mono hb1.size)
  have hH := Lib.hid (hidden_eq l)
  generalize (look l 8).getD [] = s8 at *
  generalize (look l 9).getD [] = s9 at *
  generalize (look l 9).isSome = o9 at *
  go_wp2_with fail
  refine (ref_flag1 _).mono ?_
  rintro e w3 ⟨rfl, rfl⟩
  cases h8 : (s8 == [1])
  · rw [h8] at hH
    cases o9
    · go_wp2
      go_ret
      exact ⟨ret_bool (by rw [hH.out] <;> rfl), hb⟩
    · go_wp2_with fail
      refine (ref_flag1 _).mono ?_
      rintro e w3 ⟨rfl, rfl⟩
      cases h9 : (s9 == [1]) <;> (rw [h9] at hH; go_wp2; go_ret; exact ⟨ret_bool (by rw [hH.out] <;> rfl), hb⟩)
  · rw [h8] at hH
    go_wp2
    go_ret
    exact ⟨ret_bool (by rw [hH.out] <;> rfl), hb⟩
end
end Go.Proofs.Ytakooljbkjnilaa
