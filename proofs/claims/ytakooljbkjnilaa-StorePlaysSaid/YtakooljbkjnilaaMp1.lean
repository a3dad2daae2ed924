/- A map from ints to values, told as a list in rising order. -/
import Derived.Test.YtakooljbkjnilaaFrame
import Derived.Maps.OwnSet
import Derived.Maps.RangeWalk
import Derived.Lib.SlKeysI
import Derived.Lib.Hide
namespace Go.Proofs.Ytakooljbkjnilaa
open Go Go.RowKit Go.ChangeMaps Go.MapKept
set_option maxHeartbeats 1000000

def RV (v : Value) : Option (DataW Value × List MemPlace) := some (.held v, [])
def entM (p : Int × Value) : Lit × DataW Value := (.int .i64 p.1, .held p.2)
def DM (es : List (Int × Value)) : DataW Value := .map (es.map entM)
structure MpAt (w : World) (b : Nat) (es : List (Int × Value)) : Prop where
  own : w.ownsMap Try.prog 3 RV b es.length (DM es)
  asc : es.Pairwise fun p q => p.1 < q.1
  wf : ∀ p ∈ es, (Lit.int .i64 p.1).wf = true
def lookM (es : List (Int × Value)) (k : Int) : Option Value := (es.find? fun p => p.1 == k).map (·.2)
def delM (es : List (Int × Value)) (k : Int) : List (Int × Value) := es.filter fun p => p.1 != k
theorem same_int (a b : Int) : (Lit.int .i64 a).sameKey (Lit.int .i64 b) = (a == b) := by
  rw [Bool.eq_iff_iff]; simp [Lit.sameKey]
theorem tight {w : World} {b n : Nat} {D : DataW Value} (h : w.ownsMap Try.prog 3 RV b n D) : w.ownsMap Try.prog 3 RV b (Maps.size D) D := by
  obtain ⟨es, clock, hb, F, -, hD⟩ := h
  refine ⟨es, clock, hb, F, ?_, hD⟩
  rw [hD]
  simp [Maps.size, length_sorted]
theorem size_DM (es : List (Int × Value)) : Maps.size (DM es) = es.length := by simp [DM, Maps.size]
theorem MpAt.of {w : World} {b n : Nat} {es : List (Int × Value)} (h : w.ownsMap Try.prog 3 RV b n (DM es)) (ha : es.Pairwise fun p q => p.1 < q.1) (hw : ∀ p ∈ es, (Lit.int .i64 p.1).wf = true) : MpAt w b es :=
  ⟨by have := tight h; rwa [size_DM] at this, ha, hw⟩
theorem MpAt.lt {w : World} {b : Nat} {es : List (Int × Value)} (h : MpAt w b es) : b < w.heap.size := h.own.lt
theorem MpAt.grown {w w' : World} {b : Nat} {row : Option Nat} {es : List (Int × Value)} (h : MpAt w b es) (hg : w.grownBy w' row) (hne : some b ≠ row) : MpAt w' b es := ⟨h.own.kept hg hne, h.asc, h.wf⟩
theorem MpAt.below {w w' : World} {b B : Nat} {es : List (Int × Value)} (h : MpAt w b es) (hb : Below B w w') (hB : b < B) : MpAt w' b es := by
  obtain ⟨es', clock, hb', F, hs, hD⟩ := h.own
  exact ⟨⟨es', clock, (hb.block b hB).trans hb', F, hs, hD⟩, h.asc, h.wf⟩
theorem MpAt.step {w w' : World} {b : Nat} {es : List (Int × Value)} (h : MpAt w b es) (hb : Below w.heap.size w w') : MpAt w' b es := h.below hb h.lt
theorem mp_made (w : World) : MpAt (w.alloc (.map #[] 0)) w.heap.size [] := ⟨World.ownsMap_made w _ _ _, List.Pairwise.nil, fun p hp => by simp at hp⟩
theorem lookM_at (es : List (Int × Value)) (k : Int) (z : DataW Value) : (DM es).atKey (.int .i64 k) z = ((lookM es k).map DataW.held).getD z := by
  unfold DM lookM
  simp only [DataW.atKey]
  induction es with
  | nil => rfl
  | cons p r ih =>
    simp only [List.map_cons, List.find?_cons, entM, same_int]
    cases h : (p.1 == k)
    · exact ih
    · rfl
theorem lookM_has (es : List (Int × Value)) (k : Int) : Maps.has (DM es) (.int .i64 k) = (lookM es k).isSome := by
  unfold DM lookM
  rw [Maps.has_eq]
  induction es with
  | nil => rfl
  | cons p r ih =>
    simp only [List.map_cons, List.any_cons, List.find?_cons, entM, same_int]
    cases h : (p.1 == k)
    · simpa using ih
    · rfl
theorem delM_eq (es : List (Int × Value)) (k : Int) : (DM es).del (.int .i64 k) = DM (delM es k) := by
  unfold DM delM
  simp only [DataW.del]
  congr 1
  induction es with
  | nil => rfl
  | cons p r ih =>
    simp only [List.map_cons, List.filter_cons, entM, same_int]
    cases h : (p.1 == k)
    · have h2 : (p.1 != k) = true := by simpa using h
      rw [h2]
      simp only [Bool.not_false, if_true, List.map_cons, entM]
      rw [ih]
    · have h2 : (p.1 != k) = false := by simpa using h
      rw [h2]
      simpa using ih
theorem insert_last (x : Lit × DataW Value) : ∀ l : List (Lit × DataW Value), (∀ y ∈ l, x.1.before y.1 = false) → DataW.insert x l = l ++ [x] := by
  intro l
  induction l with
  | nil => intro _; rfl
  | cons y r ih =>
    intro h
    unfold DataW.insert
    rw [if_neg (by simp [h y (by simp)]), ih fun z hz => h z (by simp [hz])]
    rfl
theorem before_int (a b : Int) : (Lit.int .i64 a).before (Lit.int .i64 b) = decide (a < b) := by simp [Lit.before]
theorem pushM_eq (es : List (Int × Value)) (k : Int) (v : Value) (h : ∀ p ∈ es, p.1 < k) : (DM es).put (.int .i64 k) (.held v) = DM (es ++ [(k, v)]) := by
  unfold DM
  simp only [DataW.put]
  congr 1
  have hf : (es.map entM).filter (fun p => !p.1.sameKey (Lit.int .i64 k)) = es.map entM := by
    rw [List.filter_eq_self]
    intro x hx
    obtain ⟨p, hp, rfl⟩ := List.mem_map.1 hx
    have := h p hp
    simp only [entM, same_int]
    have h2 : (p.1 == k) = false := by rw [beq_eq_false_iff_ne]; omega
    rw [h2]; rfl
  rw [hf, insert_last]
  · simp [entM]
  · intro y hy
    obtain ⟨p, hp, rfl⟩ := List.mem_map.1 hy
    have := h p hp
    simp only [entM, before_int]
    simp; omega
theorem MpAt.push {w' : World} {b n : Nat} {es : List (Int × Value)} {k : Int} {v : Value} (ha : es.Pairwise fun p q => p.1 < q.1) (hw : ∀ p ∈ es, (Lit.int .i64 p.1).wf = true) (hk : (Lit.int .i64 k).wf = true) (h : ∀ p ∈ es, p.1 < k) (hown : w'.ownsMap Try.prog 3 RV b n ((DM es).put (.int .i64 k) (.held v))) : MpAt w' b (es ++ [(k, v)]) := by
  rw [pushM_eq es k v h] at hown
  refine MpAt.of hown ?_ ?_
  · refine List.pairwise_append.2 ⟨ha, List.pairwise_singleton _ _, fun x hx y hy => ?_⟩
    have : y = (k, v) := by simpa using hy
    subst this
    exact h x hx
  · intro p hp
    rcases List.mem_append.1 hp with h | h
    · exact hw p h
    · have : p = (k, v) := by simpa using h
      subst this
      exact hk
theorem MpAt.del {w w' : World} {b n : Nat} {es : List (Int × Value)} {k : Int} (h : MpAt w b es) (hown : w'.ownsMap Try.prog 3 RV b n ((DM es).del (.int .i64 k))) : MpAt w' b (delM es k) := by
  rw [delM_eq] at hown
  exact MpAt.of hown (h.asc.filter _) fun p hp => h.wf p (List.mem_filter.1 hp).1
end Go.Proofs.Ytakooljbkjnilaa
