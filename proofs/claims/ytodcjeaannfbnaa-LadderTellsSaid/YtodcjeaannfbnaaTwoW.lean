/- A region that draws its order, all of whose operations but two yield plain values and leave what was there, and of which two, one behind the other, write blocks that were there before. No program is named here. -/
import Derived.Test.YtodcjeaannfbnaaOneW
namespace Go.Proofs.Ytodcjeaannfbnaa
open Go Go.RowKit
section
variable {P : Program} {ops : Array Oper} {Q : Exit → Act → World → Prop}
/-- The world behind those that have run. -/
def twoW (w0 : World) (q1 g1 : Nat) (c1 : Array Value) (q2 g2 : Nat) (c2 : Array Value) (listed : Array Bool) : World :=
  if listed.getD q2 false = true then (w0.setRow g1 c1).setRow g2 c2 else if listed.getD q1 false = true then w0.setRow g1 c1 else w0
def TwoOk (P : Program) (ops : Array Oper) (Q : Exit → Act → World → Prop) (V : Nat → Option Value) (a0 : Act) (w0 : World) (q1 g1 n1 : Nat) (c1 : Array Value) (q2 g2 n2 : Nat) (c2 : Array Value) (i : Nat) (o : Oper) : Prop :=
  if i = q1 then OneWrite P ops Q V a0 w0 g1 n1 c1 o else if i = q2 then OneWrite P ops Q V a0 (w0.setRow g1 c1) g2 n2 c2 o else if pathB ops ops.size q1 i = true then StepOk P ops Q (relV V) a0 w0 i o else if pathB ops ops.size q2 i = true then StepOk P ops Q (relV V) a0 w0 i o ∧ StepOk P ops Q (relV V) a0 (w0.setRow g1 c1) i o else ∀ w1 : World, StepOk P ops Q (relV V) a0 w1 i o
def TwoSteps (P : Program) (ops : Array Oper) (Q : Exit → Act → World → Prop) (V : Nat → Option Value) (a0 : Act) (w0 : World) (q1 g1 n1 : Nat) (c1 : Array Value) (q2 g2 n2 : Nat) (c2 : Array Value) : Nat → List Oper → Prop
  | _, [] => True
  | i, o :: l => TwoOk P ops Q V a0 w0 q1 g1 n1 c1 q2 g2 n2 c2 i o ∧ TwoSteps P ops Q V a0 w0 q1 g1 n1 c1 q2 g2 n2 c2 (i + 1) l
theorem twoSteps_at {V : Nat → Option Value} {a0 : Act} {w0 : World} {q1 g1 n1 : Nat} {c1 : Array Value} {q2 g2 n2 : Nat} {c2 : Array Value} : ∀ (l : List Oper) (n i : Nat) (o : Oper), TwoSteps P ops Q V a0 w0 q1 g1 n1 c1 q2 g2 n2 c2 n l → l[i]? = some o →
    TwoOk P ops Q V a0 w0 q1 g1 n1 c1 q2 g2 n2 c2 (n + i) o
  | [], n, i, o, _, h => by simp at h
  | x :: l, n, 0, o, h1, h => by
      have : x = o := by simpa using h
      subst this
      exact h1.1
  | x :: l, n, i + 1, o, h1, h => by
      have := twoSteps_at l (n + 1) i o h1.2 (by simpa using h)
      rw [show n + (i + 1) = n + 1 + i by omega]
      exact this
theorem wp_region_two {id : Nat} {a0 : Act} {w0 : World} (V : Nat → Option Value) (q1 g1 n1 : Nat) (c1 : Array Value) (q2 g2 n2 : Nat) (c2 : Array Value) (hm : P.follows .mixedOrders = true) (he : edgesOk ops = true) (hd : dstsOk ops = true) (hz : slotsOk ops a0.tmps.size = true)
    (hq1 : q1 < ops.size) (hq2 : q2 < ops.size) (hq : q1 ≠ q2) (hpq : pathB ops ops.size q2 q1 = true) (hg : g2 ≠ g1) (hr : Row w0 g1 n1) (hr2 : Row w0 g2 n2) (hstep : TwoSteps P ops Q V a0 w0 q1 g1 n1 c1 q2 g2 n2 c2 0 ops.toList)
    (hend : ∀ (a : Act) (w : World), Below w0.heap.size ((w0.setRow g1 c1).setRow g2 c2) w → Untouched ops a0 a → a.tmps.size = a0.tmps.size → a.defers = a0.defers → (∀ j d, j < ops.size → dstAt ops j = some d → (relV V j).p (a.tmps[d]?.getD undef) w) → Q .normal a w) :
    (Code.region id ops true).wp P Q a0 w0 := by
  refine wp_region_any hm ?_
  have hlt : ∀ i d, dstAt ops i = some d → i < ops.size := fun i d h => by
    unfold dstAt at h
    rcases Nat.lt_or_ge i ops.size with h1 | h1
    · exact h1
    · rw [Array.getElem?_eq_none h1] at h; cases h
  have hdst : ∀ i j d e, i ≠ j → dstAt ops i = some d → dstAt ops j = some e → d ≠ e := by
    intro i j d e hij h1 h2
    have := List.all_eq_true.1 (List.all_eq_true.1 hd i (by simpa using hlt i d h1)) j (by simpa using hlt j e h2)
    rw [h1, h2] at this
    simpa [hij] using this
  have hslot : ∀ i d, dstAt ops i = some d → d < a0.tmps.size := by
    intro i d h1
    have := List.all_eq_true.1 hz i (by simpa using hlt i d h1)
    rw [h1] at this
    simpa using this
  refine wpAny_inv he (fun listed a w => (∀ k o, listed.getD k false = true → ops[k]? = some o → ∀ e ∈ o.after, Region.binds .any e = true → listed.getD e.on false = true) ∧ Below w0.heap.size (twoW w0 q1 g1 c1 q2 g2 c2 listed) w ∧ Untouched ops a0 a ∧ a.tmps.size = a0.tmps.size ∧ a.defers = a0.defers ∧ ∀ j d, listed.getD j false = true → dstAt ops j = some d → (relV V j).p (a.tmps[d]?.getD undef) w) ?_ ?_ _ _ _ _ (by simp) ?_ ?_
  · rintro listed a w i o hs ⟨hcl, hb, hu, hsz, hdf, hR⟩ hi h1 ho h2
    have hil : i < listed.size := by omega
    have hli : listed.getD i false = false := by simpa [hil] using h1
    have hst := twoSteps_at ops.toList 0 i o hstep (by rw [Array.getElem?_toList]; exact ho)
    rw [Nat.zero_add] at hst
    have hcl' : ∀ k o', (listed.setIfInBounds i true).getD k false = true → ops[k]? = some o' → ∀ e ∈ o'.after, Region.binds .any e = true → (listed.setIfInBounds i true).getD e.on false = true := by
      intro k o' hk ho' e he1 he2
      have hle : listed.getD e.on false = true := by
        by_cases hki : k = i
        · subst hki
          rw [ho] at ho'
          cases ho'
          exact h2 e he1 he2
        · have hk' : listed.getD k false = true := by simpa [Array.getElem?_setIfInBounds_ne (Ne.symm hki)] using hk
          exact hcl k o' hk' ho' e he1 he2
      by_cases hei : e.on = i
      · rw [hei]; simp [hil]
      · simpa [Array.getElem?_setIfInBounds_ne (Ne.symm hei)] using hle
    have hun : ∀ v, Untouched ops a0 (a.put o.dst v) := by
      intro v s hs'
      have hns : o.dst ≠ some s := by
        have := List.all_eq_true.1 hs' o (Array.mem_toList_iff.2 (Array.mem_of_getElem? ho))
        simpa using this
      rw [← hu s hs']
      cases hd' : o.dst with
      | none => rfl
      | some d =>
        have hne : d ≠ s := fun e => hns (by rw [hd', e])
        simp [Act.put, Array.getElem?_setIfInBounds_ne hne]
    have hsz' : ∀ v, (a.put o.dst v).tmps.size = a0.tmps.size := fun v => by cases hd' : o.dst <;> simp [Act.put, hsz]
    have hdf' : ∀ v, (a.put o.dst v).defers = a0.defers := fun v => by cases hd' : o.dst <;> simp [Act.put, hdf]
    have hcame : Came ops (relV V) o a w := by
      intro j d hj hjd
      obtain ⟨e, he1, he2⟩ := List.any_eq_true.1 hj
      have he1 : e ∈ o.after := Array.mem_toList_iff.1 he1
      simp only [Bool.and_eq_true, beq_iff_eq] at he2
      refine hR j d ?_ hjd
      rw [← he2.1]
      exact h2 e he1 he2.2
    have hval : ∀ v w', (relV V i).p v w' → ∀ j d, (listed.setIfInBounds i true).getD j false = true → dstAt ops j = some d → (relV V j).p ((a.put o.dst v).tmps[d]?.getD undef) w' := by
      intro v w' hv j d hj hjd
      by_cases hij : i = j
      · subst hij
        have hd1 := hslot i d hjd
        have hod : o.dst = some d := by unfold dstAt at hjd; rw [ho] at hjd; exact hjd
        rw [hod]
        rw [← hsz] at hd1
        simp [Act.put, hd1]
        exact hv
      · have hlj : listed.getD j false = true := by
          simpa [Array.getElem?_setIfInBounds_ne hij] using hj
        have h3 : (relV V j).p (a.tmps[d]?.getD undef) w' := relV_any (hR j d hlj hjd)
        cases hd' : o.dst with
        | none => simpa [Act.put] using h3
        | some d' =>
          have hne : d' ≠ d := hdst i j d' d hij (by unfold dstAt; rw [ho]; exact hd') hjd
          simpa [Act.put, Array.getElem?_setIfInBounds_ne hne] using h3
    have hsz0 : (twoW w0 q1 g1 c1 q2 g2 c2 listed).heap.size = w0.heap.size := by
      unfold twoW
      split
      · rw [size_setRow, size_setRow]
      · split
        · rw [size_setRow]
        · rfl
    have hb0 : Below (twoW w0 q1 g1 c1 q2 g2 c2 listed).heap.size (twoW w0 q1 g1 c1 q2 g2 c2 listed) w := by rw [hsz0]; exact hb
    have hops : ∃ f, ops.size = f + 1 := ⟨ops.size - 1, by omega⟩
    have h21 : listed.getD q2 false = true → listed.getD q1 false = true := fun h => path_listed hcl ops.size q2 q1 h hpq
    have hkeep : ∀ v, o.dst = none → ∀ w', ∀ j d, (listed.setIfInBounds i true).getD j false = true → dstAt ops j = some d → (relV V j).p ((a.put none v).tmps[d]?.getD undef) w' := by
      intro v hod w' j d hj hjd
      by_cases hij : i = j
      · subst hij
        unfold dstAt at hjd
        rw [ho] at hjd
        exact absurd (hod.symm.trans hjd) (by simp)
      · have hlj : listed.getD j false = true := by
          simpa [Array.getElem?_setIfInBounds_ne hij] using hj
        exact relV_any (hR j d hlj hjd)
    unfold TwoOk at hst
    by_cases hiq : i = q1
    · subst hiq
      rw [if_pos rfl] at hst
      have hn2 : ¬ listed.getD q2 false = true := fun h => by rw [h21 h] at hli; cases hli
      have e0 : twoW w0 i g1 c1 q2 g2 c2 listed = w0 := by unfold twoW; rw [if_neg hn2, hli, if_neg (by simp)]
      rw [e0] at hb
      obtain ⟨hod, hw⟩ := hst
      have hrw : Row w g1 n1 := row_below hr hb hr.lt
      refine wpOp_step ho fun K hK => hw a w K hb hu hcame hrw fun v => ?_
      rw [← hod]
      refine hK _ _ ⟨hcl', ?_, hun _, hsz' _, hdf' _, by rw [hod]; exact hkeep v hod _⟩
      have e1 : twoW w0 i g1 c1 q2 g2 c2 (listed.setIfInBounds i true) = w0.setRow g1 c1 := by
        unfold twoW
        rw [if_neg (by simpa [Array.getElem?_setIfInBounds_ne hq] using hn2), if_pos (by simp [hil])]
      rw [e1]
      exact below_both hb hr hr.lt
    · rw [if_neg hiq] at hst
      by_cases hiq2 : i = q2
      · subst hiq2
        rw [if_pos rfl] at hst
        obtain ⟨hod, hw⟩ := hst
        have hl1 : listed.getD q1 false = true := by
          obtain ⟨f, hf⟩ := hops
          rw [hf] at hpq
          obtain ⟨o2, ho2, e, he1, he2, he3⟩ := path_on hpq
          rw [ho] at ho2
          cases ho2
          have hle := h2 e he1 he2
          rcases he3 with he3 | he3
          · rw [← he3]; exact hle
          · exact path_listed hcl f e.on q1 hle he3
        have e0 : twoW w0 q1 g1 c1 i g2 c2 listed = w0.setRow g1 c1 := by unfold twoW; rw [hli, if_neg (by simp), if_pos hl1]
        rw [e0] at hb
        have hr2' : Row (w0.setRow g1 c1) g2 n2 := (row_setRow_far hg).2 hr2
        have hb' : Below (w0.setRow g1 c1).heap.size (w0.setRow g1 c1) w := by rw [size_setRow]; exact hb
        have hrw : Row w g2 n2 := row_below hr2' hb' hr2'.lt
        refine wpOp_step ho fun K hK => hw a w K hb' hu hcame hrw fun v => ?_
        rw [← hod]
        refine hK _ _ ⟨hcl', ?_, hun _, hsz' _, hdf' _, by rw [hod]; exact hkeep v hod _⟩
        have e1 : twoW w0 q1 g1 c1 i g2 c2 (listed.setIfInBounds i true) = (w0.setRow g1 c1).setRow g2 c2 := by
          unfold twoW
          rw [if_pos (by simp [hil])]
        rw [e1]
        exact below_both hb hr2' hr2.lt
      · rw [if_neg hiq2] at hst
        have e1 : twoW w0 q1 g1 c1 q2 g2 c2 (listed.setIfInBounds i true) = twoW w0 q1 g1 c1 q2 g2 c2 listed := by
          unfold twoW
          simp only [Array.getD_eq_getD_getElem?, Array.getElem?_setIfInBounds_ne hiq, Array.getElem?_setIfInBounds_ne hiq2]
        have hstW : StepOk P ops Q (relV V) a0 (twoW w0 q1 g1 c1 q2 g2 c2 listed) i o := by
          by_cases hp : pathB ops ops.size q1 i = true
          · rw [if_pos hp] at hst
            have hq0 : ¬ listed.getD q1 false = true := fun hq => by
              have := path_listed hcl ops.size q1 i hq hp
              rw [hli] at this
              cases this
            have e0 : twoW w0 q1 g1 c1 q2 g2 c2 listed = w0 := by unfold twoW; rw [if_neg (fun h => hq0 (h21 h)), if_neg hq0]
            rw [e0]
            exact hst
          · rw [if_neg hp] at hst
            by_cases hp2 : pathB ops ops.size q2 i = true
            · rw [if_pos hp2] at hst
              have hq0 : ¬ listed.getD q2 false = true := fun hq => by
                have := path_listed hcl ops.size q2 i hq hp2
                rw [hli] at this
                cases this
              unfold twoW
              rw [if_neg hq0]
              split
              · exact hst.2
              · exact hst.1
            · rw [if_neg hp2] at hst
              exact hst _
        refine wpOp_step ho fun K hK => hstW a w K hb0 hu hcame fun v w' hv hb' => hK _ _ ⟨hcl', ?_, hun _, hsz' _, hdf' _, hval v w' hv⟩
        rw [e1]
        refine below_step hb' hb ?_
        rw [hsz0]; exact Nat.le_refl _
  · rintro listed a w ⟨-, hb, hu, hsz, hdf, hR⟩ hall
    rw [show twoW w0 q1 g1 c1 q2 g2 c2 listed = (w0.setRow g1 c1).setRow g2 c2 by unfold twoW; rw [if_pos (hall q2 hq2)]] at hb
    exact hend a w hb hu hsz hdf fun j d hj hjd => hR j d (hall j hj) hjd
  · unfold left
    rw [Array.toList_replicate]
    exact Nat.le_trans (List.length_filter_le _ _) (by simp)
  · have h0 : ∀ j, (Array.replicate ops.size false).getD j false = false := fun j => by
      rw [Array.getD_eq_getD_getElem?, Array.getElem?_replicate]
      split <;> simp
    refine ⟨fun k o hk => absurd hk (by rw [h0]; simp), ?_, fun _ _ => rfl, rfl, rfl, fun j d hj => absurd hj (by rw [h0]; simp)⟩
    rw [show twoW w0 q1 g1 c1 q2 g2 c2 (Array.replicate ops.size false) = w0 by unfold twoW; rw [h0, h0, if_neg (by simp), if_neg (by simp)]]
    exact (Below.refl _ _).drew
section
variable {V : Nat → Option Value} {a0 : Act} {w0 : World} {q1 g1 n1 : Nat} {c1 : Array Value} {q2 g2 n2 : Nat} {c2 : Array Value} {i : Nat} {o : Oper}
theorem two_q1 (h : OneWrite P ops Q V a0 w0 g1 n1 c1 o) : TwoOk P ops Q V a0 w0 q1 g1 n1 c1 q2 g2 n2 c2 q1 o := by unfold TwoOk; rw [if_pos rfl]; exact h
theorem two_q2 (hq : ¬ q2 = q1) (h : OneWrite P ops Q V a0 (w0.setRow g1 c1) g2 n2 c2 o) : TwoOk P ops Q V a0 w0 q1 g1 n1 c1 q2 g2 n2 c2 q2 o := by unfold TwoOk; rw [if_neg hq, if_pos rfl]; exact h
theorem two_before (h1 : ¬ i = q1) (h2 : ¬ i = q2) (hp : pathB ops ops.size q1 i = true) (h : StepOk P ops Q (relV V) a0 w0 i o) : TwoOk P ops Q V a0 w0 q1 g1 n1 c1 q2 g2 n2 c2 i o := by unfold TwoOk; rw [if_neg h1, if_neg h2, if_pos hp]; exact h
theorem two_mid (h1 : ¬ i = q1) (h2 : ¬ i = q2) (hp : pathB ops ops.size q1 i = false) (hp2 : pathB ops ops.size q2 i = true) (h : StepOk P ops Q (relV V) a0 w0 i o) (h' : StepOk P ops Q (relV V) a0 (w0.setRow g1 c1) i o) : TwoOk P ops Q V a0 w0 q1 g1 n1 c1 q2 g2 n2 c2 i o := by
  unfold TwoOk
  rw [if_neg h1, if_neg h2, if_neg (by rw [hp]; simp), if_pos hp2]
  exact ⟨h, h'⟩
theorem two_free (h1 : ¬ i = q1) (h2 : ¬ i = q2) (h : ∀ w1 : World, StepOk P ops Q (relV V) a0 w1 i o) : TwoOk P ops Q V a0 w0 q1 g1 n1 c1 q2 g2 n2 c2 i o := by
  unfold TwoOk
  rw [if_neg h1, if_neg h2]
  split
  · exact h w0
  · split
    · exact ⟨h _, h _⟩
    · exact h
end
end
end Go.Proofs.Ytodcjeaannfbnaa
