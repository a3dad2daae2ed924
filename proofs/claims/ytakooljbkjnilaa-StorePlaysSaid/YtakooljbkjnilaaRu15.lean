/- Package rule's Make. -/
import Derived.Test.YtakooljbkjnilaaRu14
namespace Go.Proofs.Ytakooljbkjnilaa
open Go.ChangeShapes Go.WideShapes Go.ChangeAt Go.RowKit
set_option maxHeartbeats 1000000
set_option maxRecDepth 100000
attribute [local go_sem] kp_refl kp_alloc kp_setCell kp_drew kp_drewN row_new row_old rowAt_new rowAt_old

def scanAt (ks : List Nat) (k : Int) : Int := if hasInt ks k = false then 13 else if k = 10 ∨ k = 11 ∨ k = 12 then 12 else 0
def scanK (ks : List Nat) : List Int → Int
  | [] => 0
  | k :: r => if scanAt ks k = 0 then scanK ks r else scanAt ks k
theorem scanK_stop {ks : List Nat} {z : Int} (hz : z ≠ 0) : ∀ (j : Nat) (l : List Int) (hj : j < l.length), (∀ i (h : i < j), scanAt ks (l[i]'(by omega)) = 0) → scanAt ks l[j] = z → scanK ks l = z := by
  intro j
  induction j with
  | zero =>
    intro l hj _ h
    cases l with
    | nil => simp at hj
    | cons x r => simp only [List.getElem_cons_zero] at h; simp only [scanK, h, if_neg hz]
  | succ j ih =>
    intro l hj h0 h
    cases l with
    | nil => simp at hj
    | cons x r =>
      have h1 := h0 0 (by omega)
      simp only [List.getElem_cons_zero] at h1
      simp only [scanK, h1, if_true]
      exact ih r (by simp at hj; omega) (fun i hi => by simpa using h0 (i + 1) (by omega)) (by simpa using h)
theorem scanK_all {ks : List Nat} : ∀ (l : List Int), (∀ i (h : i < l.length), scanAt ks l[i] = 0) → scanK ks l = 0 := by
  intro l
  induction l with
  | nil => intro _; rfl
  | cons x r ih =>
    intro h
    have h1 := h 0 (by simp)
    simp only [List.getElem_cons_zero] at h1
    simp only [scanK, h1, if_true]
    exact ih fun i hi => by
      have h2 := h (i + 1) (by simp; omega)
      simpa using h2

def outAt (l : List At) (cls : Nat) (loc : Bool) (k : Nat) : KV := ((k : Int), (look l k).getD (missP l k cls loc))
def outP (l : List At) (cls : Nat) (loc : Bool) (ks : List Nat) : List KV := ks.map (outAt l cls loc)
theorem missP_len (l : List At) (k : Int) (cls : Nat) (loc : Bool) : (missP l k cls loc).length ≤ 1 := by
  unfold missP flagB
  repeat' split
  all_goals simp
theorem look_len {l : List At} {w : World} {B : Nat} {A : Option Addr} (h : Ats w B A l) {k : Int} {b : List UInt8} (hb : look l k = some b) : b.length ≤ 140737488351232 := by
  obtain ⟨i, hi, rfl⟩ := look_some hb
  exact (h.body _ (List.getElem_mem hi.lt)).2.2.2
def lookOneK (s : List KV) (k : Int) : Bool := lookK s k == some [1]
def soundK (s : List KV) : Bool := if (lookOneK s 10 && !lookOneK s 8) || (lookOneK s 11 && lookOneK s 9) then false else !(lookOneK s 16 || lookOneK s 17) || !(lookOneK s 13 || (lookOneK s 14 || lookOneK s 15))
def validK (s : List KV) : Bool := fault s == 0 && (decide (s.length = (kindsN (clsL s)).length) && (decide (s.length ≠ 0) && (decide (s.map (·.1) = (kindsN (clsL s)).map fun k : Nat => (k : Int)) && (sizedP (clsL s) ((lookK s 4).getD []).length && soundK s))))
theorem lookOne_kv (l : List At) (k : Int) : lookOne l k = lookOneK (l.map At.kv) k := by unfold lookOne lookOneK; rw [look_kv]
theorem validP_kv (l : List At) : validP l = validK (l.map At.kv) := by
  unfold validP validK soundP soundK kindsAre
  simp only [lookOne_kv, look_kv, List.length_map, List.map_map]
  rfl
/-- What Make answers. -/
def makeP3 (l : List At) (loc : Bool) (C : Nat) (ks : List Nat) : List KV × Int := if validK (outP l C loc ks) = false then ([], 12) else (outP l C loc ks, 0)
def makeP2 (l : List At) (loc : Bool) (C : Nat) (ks : List Nat) : List KV × Int :=
  match look l 4 with
  | none => ([], 3)
  | some b => if sizedP C b.length = false then ([], 4) else makeP3 l loc C ks
def makeP1 (l : List At) (loc : Bool) (C : Nat) (ks : List Nat) : List KV × Int := if scanK ks (l.map At.kind) ≠ 0 then ([], scanK ks (l.map At.kind)) else makeP2 l loc C ks
def makeP0 (l : List At) (loc : Bool) (C : Nat) : List KV × Int := if C = 0 then ([], 1) else makeP1 l loc C (kindsN C)
def makeP (l : List At) (loc : Bool) : List KV × Int := if fault (l.map At.kv) ≠ 0 then ([], fault (l.map At.kv)) else makeP0 l loc (clsL (l.map At.kv))
theorem atsErr_of {l : List At} {loc : Bool} {w w' : World} {z : Int} (h : makeP l loc = ([], z)) (hb : Below w.heap.size w w') : AtsErr (makeP l loc).1 (makeP l loc).2 w (.returned (.tuple #[.slice none 0 0, .int .i64 z])) w' := by
  rw [h]; exact ⟨_, rfl, AtsR.nil hb⟩

end Go.Proofs.Ytakooljbkjnilaa
