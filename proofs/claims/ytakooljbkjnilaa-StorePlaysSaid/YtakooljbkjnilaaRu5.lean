/- Cards of attributes: CardOf, Attrs, Upon. -/
import Derived.Test.YtakooljbkjnilaaRu3
import Derived.Test.YtakooljbkjnilaaRu4
import Derived.Test.YtakooljbkjnilaaRet2
import Derived.RegionTactic
namespace Go.Proofs.Ytakooljbkjnilaa
open Go.ChangeShapes Go.WideShapes Go.ChangeAt Go.RowKit
set_option maxHeartbeats 1000000
set_option maxRecDepth 100000
attribute [local go_sem] kp_refl kp_alloc kp_setCell kp_drew kp_drewN row_new row_old rowAt_new rowAt_old

attribute [local go_sem] isHead_mk blkOf_mk isAgg_mk cellsV_mk row_drew rowAt_drew row_new_cells setRow_new

/-! CardOf -/
def lookK (l : List KV) (k : Int) : Option (List UInt8) := (l.find? fun x => x.1 == k).map (·.2)
theorem look_kv (l : List At) (k : Int) : look l k = lookK (l.map At.kv) k := by
  unfold look lookK
  rw [List.find?_map]
  cases h : l.find? ((fun x : KV => x.1 == k) ∘ At.kv) with
  | none => rw [show l.find? (fun x => x.kind == k) = none from h]; rfl
  | some x => rw [show l.find? (fun x => x.kind == k) = some x from h]; rfl
def inK (k : Nat) : Bool := decide (1 ≤ k) && decide (k ≤ 18)
def cardOf (l : List KV) : Crd := ⟨fun k => inK k && (lookK l k).isSome, fun k => if inK k = true then (lookK l k).getD [] else []⟩
theorem lookK_snoc (l : List KV) (x : KV) (k : Int) : lookK (l ++ [x]) k = (lookK l k).or (if x.1 == k then some x.2 else none) := by
  unfold lookK
  rw [List.find?_append]
  cases h : l.find? (fun x => x.1 == k) with
  | some y => simp
  | none =>
    cases h2 : (x.1 == k) <;> simp [List.find?, h2]
theorem cardOf_nil : cardOf [] = crd0 := by
  unfold cardOf crd0
  congr 1
  · funext k; simp [lookK]
  · funext k; simp [lookK]
theorem cardOf_skip {l : List KV} {x : KV} (h : x.1 < 1 ∨ 18 < x.1) : cardOf (l ++ [x]) = cardOf l := by
  have key : ∀ k : Nat, inK k = true → lookK (l ++ [x]) k = lookK l k := fun k hk => by
    rw [lookK_snoc]
    simp only [inK, Bool.and_eq_true, decide_eq_true_eq] at hk
    have : (x.1 == (k : Int)) = false := by simp; omega
    rw [this]; simp
  unfold cardOf
  congr 1
  · funext k
    cases hk : inK k
    · rfl
    · rw [key k hk]
  · funext k
    by_cases hk : inK k = true
    · rw [if_pos hk, if_pos hk, key k hk]
    · rw [if_neg hk, if_neg hk]
theorem cardOf_old {l : List KV} {x : KV} {n : Nat} (hn : x.1 = n) (h : (cardOf l).has n = true) : cardOf (l ++ [x]) = cardOf l := by
  have key : ∀ k : Nat, lookK (l ++ [x]) k = lookK l k := fun k => by
    rw [lookK_snoc]
    by_cases e : k = n
    · subst e
      have h2 : (lookK l (k : Int)).isSome = true := by simp only [cardOf, Bool.and_eq_true] at h; exact h.2
      obtain ⟨b, hb⟩ := Option.isSome_iff_exists.1 h2
      rw [hb]; rfl
    · have : (x.1 == (k : Int)) = false := by rw [hn]; simp; omega
      rw [this]; simp
  unfold cardOf
  congr 1
  · funext k; rw [key k]
  · funext k; rw [key k]
def updH (f : Nat → Bool) (n : Nat) : Nat → Bool := fun k => if k = n then true else f k
def updB (f : Nat → List UInt8) (n : Nat) (b : List UInt8) : Nat → List UInt8 := fun k => if k = n then b else f k
theorem cardOf_new {l : List KV} {x : KV} {n : Nat} (hn : x.1 = n) (hin : inK n = true) (h : (cardOf l).has n = false) : cardOf (l ++ [x]) = ⟨updH (cardOf l).has n, updB (cardOf l).v n x.2⟩ := by
  have hnone : lookK l (n : Int) = none := by
    simp only [cardOf, hin, Bool.true_and] at h
    cases h2 : lookK l (n : Int) with
    | none => rfl
    | some b => rw [h2] at h; cases h
  have key : ∀ k : Nat, lookK (l ++ [x]) k = if k = n then some x.2 else lookK l k := fun k => by
    rw [lookK_snoc]
    by_cases e : k = n
    · subst e
      rw [hnone, hn]; simp
    · have : (x.1 == (k : Int)) = false := by rw [hn]; simp; omega
      rw [this, if_neg e]; simp
  unfold cardOf
  congr 1
  · funext k
    unfold updH
    rw [key k]
    by_cases e : k = n
    · subst e; simp [hin]
    · rw [if_neg e, if_neg e]
  · funext k
    unfold updB
    rw [key k]
    by_cases e : k = n
    · subst e; simp [hin]
    · rw [if_neg e, if_neg e]
theorem cf_upd {w : World} {g : Nat} (c : Crd) {n : Nat} (hn : n < 19) (b : List UInt8) : Fa w g 38 (updV (updV (cf c) n (.bool true)) (19 + n) (strV b)) → CrdAt w g ⟨updH c.has n, updB c.v n b⟩ := fun h => h.congr fun i hi => by
  simp only [updV, cf, updH, updB]
  by_cases h1 : i = 19 + n
  · subst h1
    rw [if_pos rfl, if_neg (by omega), Nat.add_sub_cancel_left]; simp
  · rw [if_neg h1]
    by_cases h2 : i = n
    · subst h2; rw [if_pos rfl, if_pos hn]; simp
    · rw [if_neg h2]
      by_cases h3 : i < 19
      · rw [if_pos h3, if_pos h3]; simp [h2]
      · rw [if_neg h3, if_neg h3, if_neg (show ¬ i - 19 = n by omega)]

end Go.Proofs.Ytakooljbkjnilaa
