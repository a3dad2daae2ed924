/- A region that draws its order, all of whose operations but one yield plain values and leave what was there, and of which one writes a block that was there before: one proof an operation. No program is named here. -/
import Derived.Test.YtdlmamnnamlleaaDoorTail
namespace Go.Proofs.YtdlmamnnamlleaaDoor
open Go Go.RowKit

theorem below_both {B g n : Nat} {c : Array Value} {u w : World} (h : Below B u w) (hr : Row u g n) (hg : g < B) : Below B (u.setRow g c) (w.setRow g c) := by
  obtain ⟨cs, t, h1, -⟩ := hr
  have h2 := (h.block g hg).trans h1
  refine ⟨h.os, h.tape, h.output, ?_, fun k hk => ?_⟩
  · have := h.size
    simpa [World.setRow] using this
  · by_cases hkg : k = g
    · subst hkg; rw [setRow_heap u k _ c _ _ h1, setRow_heap w k _ c _ _ h2]
    · rw [setRow_other _ _ _ _ hkg, setRow_other _ _ _ _ hkg]; exact h.block k hk
theorem size_setRow {w : World} {g : Nat} {c : Array Value} : (w.setRow g c).heap.size = w.heap.size := by simp [World.setRow]

section
variable {P : Program} {ops : Array Oper} {Q : Exit → Act → World → Prop}
def relV (V : Nat → Option Value) (i : Nat) : SRel := match V i with | some c => SRel.is c | none => SRel.any
theorem relV_any {V : Nat → Option Value} {i : Nat} {v : Value} {w w' : World} (h : (relV V i).p v w) : (relV V i).p v w' := by
  unfold relV at *
  cases h1 : V i with
  | none => trivial
  | some c => rw [h1] at h; exact h
/-- The one that writes. -/
def OneWrite (P : Program) (ops : Array Oper) (Q : Exit → Act → World → Prop) (V : Nat → Option Value) (a0 : Act) (w0 : World) (g n : Nat) (c : Array Value) (o : Oper) : Prop :=
  o.dst = none ∧ ∀ (a : Act) (w : World) (K : Act → World → Prop), Below w0.heap.size w0 w → Untouched ops a0 a → Came ops (relV V) o a w → Row w g n → (∀ v, K (a.put none v) (w.setRow g c)) →
    if Region.wanted o (yielded ops a.tmps) = true then Oper.wp P o a w K Q else K (a.put o.dst undef) w
def OneSteps (P : Program) (ops : Array Oper) (Q : Exit → Act → World → Prop) (V : Nat → Option Value) (a0 : Act) (w0 : World) (q g n : Nat) (c : Array Value) : Nat → List Oper → Prop
  | _, [] => True
  | i, o :: l => (if i = q then OneWrite P ops Q V a0 w0 g n c o else if pathB ops ops.size q i = true then StepOk P ops Q (relV V) a0 w0 i o else ∀ w1 : World, StepOk P ops Q (relV V) a0 w1 i o) ∧ OneSteps P ops Q V a0 w0 q g n c (i + 1) l
theorem oneSteps_at {V : Nat → Option Value} {a0 : Act} {w0 : World} {q g n' : Nat} {c : Array Value} : ∀ (l : List Oper) (n i : Nat) (o : Oper), OneSteps P ops Q V a0 w0 q g n' c n l → l[i]? = some o →
    (if n + i = q then OneWrite P ops Q V a0 w0 g n' c o else if pathB ops ops.size q (n + i) = true then StepOk P ops Q (relV V) a0 w0 (n + i) o else ∀ w1 : World, StepOk P ops Q (relV V) a0 w1 (n + i) o)
  | [], n, i, o, _, h => by simp at h
  | x :: l, n, 0, o, h1, h => by
      have : x = o := by simpa using h
      subst this
      exact h1.1
  | x :: l, n, i + 1, o, h1, h => by
      have := oneSteps_at l (n + 1) i o h1.2 (by simpa using h)
      rw [show n + (i + 1) = n + 1 + i by omega]
      exact this
theorem wp_region_one {id : Nat} {a0 : Act} {w0 : World} (V : Nat → Option Value) (q g n : Nat) (c : Array Value) (hm : P.follows .mixedOrders = true) (he : edgesOk ops = true) (hd : dstsOk ops = true) (hz : slotsOk ops a0.tmps.size = true)
    (hqn : q < ops.size) (hr : Row w0 g n) (hstep : OneSteps P ops Q V a0 w0 q g n c 0 ops.toList)
    (hend : ∀ (a : Act) (w : World), Below w0.heap.size (w0.setRow g c) w → Untouched ops a0 a → a.tmps.size = a0.tmps.size → a.defers = a0.defers → (∀ j d, j < ops.size → dstAt ops j = some d → (relV V j).p (a.tmps[d]?.getD undef) w) → Q .normal a w) :
    (Code.region id ops true).wp P Q a0 w0 := by
  refine wp_region_any hm ?_
  have hlt : ∀ i d, dstAt ops i = some d → i < ops.size := fun i d h => by
    unfold dstAt at h
    rcases Nat.lt_or_ge i ops.size with h1 | h1
    · exact h1
    · rw [Array.getElem?_eq_none h1] at h; cases h
  have hdst : ∀ i j d e, i ≠ j → dstAt ops i = some d → dstAt ops j = some e → d ≠ e := by
    intro i j d e hij h1 h2
    have := List.all_eq_true.1 (List.all_eq_true.1 hd i (by simpa using hlt i d h1)) j (by simpa using hlt j e h2)
    rw [h1, h2] at this
    simpa [hij] using this
  have hslot : ∀ i d, dstAt ops i = some d → d < a0.tmps.size := by
    intro i d h1
    have := List.all_eq_true.1 hz i (by simpa using hlt i d h1)
    rw [h1] at this
    simpa using this
  refine wpAny_inv he (fun listed a w => (∀ k o, listed.getD k false = true → ops[k]? = some o → ∀ e ∈ o.after, Region.binds .any e = true → listed.getD e.on false = true) ∧ Below w0.heap.size (if listed.getD q false = true then w0.setRow g c else w0) w ∧ Untouched ops a0 a ∧ a.tmps.size = a0.tmps.size ∧ a.defers = a0.defers ∧ ∀ j d, listed.getD j false = true → dstAt ops j = some d → (relV V j).p (a.tmps[d]?.getD undef) w) ?_ ?_ _ _ _ _ (by simp) ?_ ?_
  · rintro listed a w i o hs ⟨hcl, hb, hu, hsz, hdf, hR⟩ hi h1 ho h2
    have hil : i < listed.size := by omega
    have hli : listed.getD i false = false := by simpa [hil] using h1
    have hst := oneSteps_at ops.toList 0 i o hstep (by rw [Array.getElem?_toList]; exact ho)
    rw [Nat.zero_add] at hst
    have hcl' : ∀ k o', (listed.setIfInBounds i true).getD k false = true → ops[k]? = some o' → ∀ e ∈ o'.after, Region.binds .any e = true → (listed.setIfInBounds i true).getD e.on false = true := by
      intro k o' hk ho' e he1 he2
      have hle : listed.getD e.on false = true := by
        by_cases hki : k = i
        · subst hki
          rw [ho] at ho'
          cases ho'
          exact h2 e he1 he2
        · have hk' : listed.getD k false = true := by simpa [Array.getElem?_setIfInBounds_ne (Ne.symm hki)] using hk
          exact hcl k o' hk' ho' e he1 he2
      by_cases hei : e.on = i
      · rw [hei]; simp [hil]
      · simpa [Array.getElem?_setIfInBounds_ne (Ne.symm hei)] using hle
    have hun : ∀ v, Untouched ops a0 (a.put o.dst v) := by
      intro v s hs'
      have hns : o.dst ≠ some s := by
        have := List.all_eq_true.1 hs' o (Array.mem_toList_iff.2 (Array.mem_of_getElem? ho))
        simpa using this
      rw [← hu s hs']
      cases hd' : o.dst with
      | none => rfl
      | some d =>
        have hne : d ≠ s := fun e => hns (by rw [hd', e])
        simp [Act.put, Array.getElem?_setIfInBounds_ne hne]
    have hsz' : ∀ v, (a.put o.dst v).tmps.size = a0.tmps.size := fun v => by cases hd' : o.dst <;> simp [Act.put, hsz]
    have hdf' : ∀ v, (a.put o.dst v).defers = a0.defers := fun v => by cases hd' : o.dst <;> simp [Act.put, hdf]
    have hcame : Came ops (relV V) o a w := by
      intro j d hj hjd
      obtain ⟨e, he1, he2⟩ := List.any_eq_true.1 hj
      have he1 : e ∈ o.after := Array.mem_toList_iff.1 he1
      simp only [Bool.and_eq_true, beq_iff_eq] at he2
      refine hR j d ?_ hjd
      rw [← he2.1]
      exact h2 e he1 he2.2
    have hval : ∀ v w', (relV V i).p v w' → ∀ j d, (listed.setIfInBounds i true).getD j false = true → dstAt ops j = some d → (relV V j).p ((a.put o.dst v).tmps[d]?.getD undef) w' := by
      intro v w' hv j d hj hjd
      by_cases hij : i = j
      · subst hij
        have hd1 := hslot i d hjd
        have hod : o.dst = some d := by unfold dstAt at hjd; rw [ho] at hjd; exact hjd
        rw [hod]
        rw [← hsz] at hd1
        simp [Act.put, hd1]
        exact hv
      · have hlj : listed.getD j false = true := by
          simpa [Array.getElem?_setIfInBounds_ne hij] using hj
        have h3 : (relV V j).p (a.tmps[d]?.getD undef) w' := relV_any (hR j d hlj hjd)
        cases hd' : o.dst with
        | none => simpa [Act.put] using h3
        | some d' =>
          have hne : d' ≠ d := hdst i j d' d hij (by unfold dstAt; rw [ho]; exact hd') hjd
          simpa [Act.put, Array.getElem?_setIfInBounds_ne hne] using h3
    by_cases hiq : i = q
    · subst hiq
      rw [if_pos rfl] at hst
      rw [hli, if_neg (by simp)] at hb
      obtain ⟨hod, hw⟩ := hst
      have hrw : Row w g n := row_below hr hb hr.lt
      refine wpOp_step ho fun K hK => hw a w K hb hu hcame hrw fun v => ?_
      rw [← hod]
      refine hK _ _ ⟨hcl', ?_, hun _, hsz' _, hdf' _, ?_⟩
      · rw [if_pos (by simp [hil])]
        exact below_both hb hr hr.lt
      · intro j d hj hjd
        by_cases hij : i = j
        · subst hij
          unfold dstAt at hjd
          rw [ho] at hjd
          exact absurd (hod.symm.trans hjd) (by simp)
        · have hlj : listed.getD j false = true := by
            simpa [Array.getElem?_setIfInBounds_ne hij] using hj
          rw [hod]
          exact relV_any (hR j d hlj hjd)
    · rw [if_neg hiq] at hst
      have hqs : (listed.setIfInBounds i true).getD q false = listed.getD q false := by simp [Array.getElem?_setIfInBounds_ne hiq]
      have hstW : StepOk P ops Q (relV V) a0 (if listed.getD q false = true then w0.setRow g c else w0) i o := by
        by_cases hp : pathB ops ops.size q i = true
        · rw [if_pos hp] at hst
          have hq0 : ¬ listed.getD q false = true := fun hq => by
            obtain ⟨f, hf⟩ : ∃ f, ops.size = f + 1 := ⟨ops.size - 1, by omega⟩
            have := path_listed hcl ops.size q i hq hp
            rw [hli] at this
            cases this
          rw [if_neg hq0]
          exact hst
        · rw [if_neg hp] at hst
          exact hst _
      have hb0 : Below (if listed.getD q false = true then w0.setRow g c else w0).heap.size (if listed.getD q false = true then w0.setRow g c else w0) w := by
        split
        · rename_i hh; rw [if_pos hh] at hb; rw [size_setRow]; exact hb
        · rename_i hh; rw [if_neg hh] at hb; exact hb
      refine wpOp_step ho fun K hK => hstW a w K hb0 hu hcame fun v w' hv hb' => hK _ _ ⟨hcl', ?_, hun _, hsz' _, hdf' _, hval v w' hv⟩
      rw [hqs]
      refine below_step hb' hb ?_
      split
      · rw [size_setRow]; exact Nat.le_refl _
      · exact Nat.le_refl _
  · rintro listed a w ⟨-, hb, hu, hsz, hdf, hR⟩ hall
    rw [if_pos (hall q hqn)] at hb
    exact hend a w hb hu hsz hdf fun j d hj hjd => hR j d (hall j hj) hjd
  · unfold left
    rw [Array.toList_replicate]
    exact Nat.le_trans (List.length_filter_le _ _) (by simp)
  · have h0 : ∀ j, (Array.replicate ops.size false).getD j false = false := fun j => by
      rw [Array.getD_eq_getD_getElem?, Array.getElem?_replicate]
      split <;> simp
    refine ⟨fun k o hk => absurd hk (by rw [h0]; simp), ?_, fun _ _ => rfl, rfl, rfl, fun j d hj => absurd hj (by rw [h0]; simp)⟩
    rw [h0, if_neg (by simp)]
    exact (Below.refl _ _).drew
theorem one_write {V : Nat → Option Value} {a0 : Act} {w0 : World} {g n : Nat} {c : Array Value} {o : Oper} (hod : o.dst = none) (hg : o.guard = none)
    (h : ∀ (a : Act) (w : World) (K : Act → World → Prop), Below w0.heap.size w0 w → Untouched ops a0 a → Came ops (relV V) o a w → Row w g n → (∀ v, K (a.put none v) (w.setRow g c)) → Oper.wp P o a w K Q) : OneWrite P ops Q V a0 w0 g n c o := by
  refine ⟨hod, fun a w K hb hu hc hr hK => ?_⟩
  rw [if_pos (by simp [Region.wanted, hg])]
  exact h a w K hb hu hc hr hK
theorem one_q {V : Nat → Option Value} {a0 : Act} {w0 : World} {q g n : Nat} {c : Array Value} {o : Oper} (h : OneWrite P ops Q V a0 w0 g n c o) :
    if q = q then OneWrite P ops Q V a0 w0 g n c o else if pathB ops ops.size q q = true then StepOk P ops Q (relV V) a0 w0 q o else ∀ w1 : World, StepOk P ops Q (relV V) a0 w1 q o := by rw [if_pos rfl]; exact h
theorem one_before {V : Nat → Option Value} {a0 : Act} {w0 : World} {i q g n : Nat} {c : Array Value} {o : Oper} (hi : ¬ i = q) (hp : pathB ops ops.size q i = true) (h : StepOk P ops Q (relV V) a0 w0 i o) :
    if i = q then OneWrite P ops Q V a0 w0 g n c o else if pathB ops ops.size q i = true then StepOk P ops Q (relV V) a0 w0 i o else ∀ w1 : World, StepOk P ops Q (relV V) a0 w1 i o := by rw [if_neg hi, if_pos hp]; exact h
theorem one_free {V : Nat → Option Value} {a0 : Act} {w0 : World} {i q g n : Nat} {c : Array Value} {o : Oper} (hi : ¬ i = q) (h : ∀ w1 : World, StepOk P ops Q (relV V) a0 w1 i o) :
    if i = q then OneWrite P ops Q V a0 w0 g n c o else if pathB ops ops.size q i = true then StepOk P ops Q (relV V) a0 w0 i o else ∀ w1 : World, StepOk P ops Q (relV V) a0 w1 i o := by
  rw [if_neg hi]
  split
  · exact h w0
  · exact h
end
end Go.Proofs.YtdlmamnnamlleaaDoor
