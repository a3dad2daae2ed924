/- A region that draws its order, all of whose operations but the last yield plain values and leave what was there, and whose last waits for all else and does what it will: one proof an operation. No program is named here. -/
import Derived.Test.YtakooljbkjnilaaCalm
namespace Go.Proofs.Ytakooljbkjnilaa
open Go Go.RowKit

section
variable {P : Program} {ops : Array Oper} {Q : Exit → Act → World → Prop}
/-- Operation k waits for operation j, at once or through others. -/
def pathB (ops : Array Oper) : Nat → Nat → Nat → Bool
  | 0, _, _ => false
  | f + 1, k, j => ((ops[k]?).map fun o => o.after.toList.any fun e => Region.binds .any e && (e.on == j || pathB ops f e.on j)).getD false
/-- Operation q waits for all others. -/
def tEdges (ops : Array Oper) (q : Nat) : Bool := (List.range ops.size).all fun j => j == q || pathB ops ops.size q j
theorem path_on {f k j : Nat} (h : pathB ops (f + 1) k j = true) : ∃ o, ops[k]? = some o ∧ ∃ e ∈ o.after, Region.binds .any e = true ∧ (e.on = j ∨ pathB ops f e.on j = true) := by
  unfold pathB at h
  cases ho : ops[k]? with
  | none => rw [ho] at h; cases h
  | some o =>
    rw [ho] at h
    obtain ⟨e, he1, he2⟩ := List.any_eq_true.1 (show (o.after.toList.any fun e => Region.binds .any e && (e.on == j || pathB ops f e.on j)) = true from h)
    rw [Bool.and_eq_true, Bool.or_eq_true, beq_iff_eq] at he2
    exact ⟨o, rfl, e, Array.mem_toList_iff.1 he1, he2⟩
theorem path_listed {listed : Array Bool} (hcl : ∀ k o, listed.getD k false = true → ops[k]? = some o → ∀ e ∈ o.after, Region.binds .any e = true → listed.getD e.on false = true) :
    ∀ (f k j : Nat), listed.getD k false = true → pathB ops f k j = true → listed.getD j false = true
  | 0, _, _, _, h => by cases h
  | f + 1, k, j, hk, h => by
    obtain ⟨o, ho, e, he, hb, h2⟩ := path_on h
    have hl := hcl k o hk ho e he hb
    rcases h2 with h2 | h2
    · rw [← h2]; exact hl
    · exact path_listed hcl f e.on j hl h2
/-- The slots that no operation but q writes read as at first. -/
def UntouchedT (ops : Array Oper) (q : Nat) (a0 a : Act) : Prop := ∀ s, ((List.range ops.size).all fun i => i == q || dstAt ops i != some s) = true → a.tmps[s]?.getD undef = a0.tmps[s]?.getD undef
def StepOkT (P : Program) (ops : Array Oper) (Q : Exit → Act → World → Prop) (R : Nat → SRel) (a0 : Act) (w0 : World) (q i : Nat) (o : Oper) : Prop :=
  ∀ (a : Act) (w : World) (K : Act → World → Prop), Below w0.heap.size w0 w → UntouchedT ops q a0 a → Came ops R o a w →
    (∀ v w', (R i).p v w' → Below w.heap.size w w' → K (a.put o.dst v) w') → if Region.wanted o (yielded ops a.tmps) = true then Oper.wp P o a w K Q else K (a.put o.dst undef) w
theorem calmT_step {R : Nat → SRel} {a0 : Act} {w0 : World} {q i : Nat} {o : Oper} (hg : o.guard = none)
    (h : ∀ (a : Act) (w : World) (K : Act → World → Prop), Below w0.heap.size w0 w → UntouchedT ops q a0 a → Came ops R o a w → (∀ v w', (R i).p v w' → Below w.heap.size w w' → K (a.put o.dst v) w') → Oper.wp P o a w K Q) : StepOkT P ops Q R a0 w0 q i o := by
  intro a w K hb hu hc hK
  rw [if_pos (by simp [Region.wanted, hg])]
  exact h a w K hb hu hc hK
theorem calmT_step_guard {R : Nat → SRel} {a0 : Act} {w0 : World} {q i g : Nat} {b : Bool} {d : Tmp} {o : Oper} (hg : o.guard = some (g, b)) (hd : dstAt ops g = some d)
    (hv : ∀ (a : Act) (w : World), Came ops R o a w → a.tmps[d]?.getD undef = .bool b)
    (h : ∀ (a : Act) (w : World) (K : Act → World → Prop), Below w0.heap.size w0 w → UntouchedT ops q a0 a → Came ops R o a w → (∀ v w', (R i).p v w' → Below w.heap.size w w' → K (a.put o.dst v) w') → Oper.wp P o a w K Q) : StepOkT P ops Q R a0 w0 q i o := by
  intro a w K hb hu hc hK
  have hy : yielded ops a.tmps g = some b := by
    have h1 := hv a w hc
    unfold dstAt at hd
    unfold yielded
    rw [hd, Option.bind_some]
    cases h2 : a.tmps[d]? with
    | none => rw [h2] at h1; cases h1
    | some v => rw [h2] at h1; have : v = .bool b := h1; rw [this]
  rw [if_pos (by simp [Region.wanted, hg, hy])]
  exact h a w K hb hu hc hK
/-- The frame before the last operation, written out. -/
def dstT (ops : Array Oper) (q s : Nat) : Bool := (List.range ops.size).any fun i => !(i == q) && dstAt ops i == some s
theorem act_patchT {a0 a : Act} {n : Nat} (q : Nat) (bs : List Bool) (hn : a0.tmps.size = n) (hbs : bs = (List.range n).map (fun j => dstT ops q (0 + j))) (hu : UntouchedT ops q a0 a) (hsz : a.tmps.size = a0.tmps.size) (hdf : a.defers = a0.defers) :
    a = ⟨(patch a 0 a0.tmps.toList bs).toArray, a0.defers⟩ := by
  rw [patch_eq a (dstT ops q) a0.tmps.toList 0 bs (by rw [hbs, Array.length_toList, hn])]
  obtain ⟨t, d⟩ := a
  simp only at hsz hdf hu ⊢
  subst hdf
  congr 1
  apply Array.ext
  · simp [hsz]
  · intro i h1 h2
    simp only [List.getElem_toArray, List.getElem_map, List.getElem_range, Nat.zero_add]
    cases hD : dstT ops q i with
    | true => simp [h1]
    | false =>
      have h3 := hu i (by
        rw [List.all_eq_true]
        intro j hj
        unfold dstT at hD
        have h4 := List.any_eq_false.1 hD j hj
        cases hjq : (j == q) with
        | true => rfl
        | false =>
          rw [hjq] at h4
          simp at h4 ⊢
          exact h4)
      simp [h1] at h3
      rw [cond_false, h3]
      have h5 : i < a0.tmps.size := by omega
      simp [h5]
/-- What is asked of the last operation. -/
def LastOk (P : Program) (ops : Array Oper) (Q : Exit → Act → World → Prop) (R : Nat → SRel) (a0 : Act) (w0 : World) (q : Nat) (o : Oper) : Prop :=
  ∀ (a : Act) (w : World), Below w0.heap.size w0 w → UntouchedT ops q a0 a → a.tmps.size = a0.tmps.size → a.defers = a0.defers → (∀ j d, j ≠ q → dstAt ops j = some d → (R j).p (a.tmps[d]?.getD undef) w) →
    if Region.wanted o (yielded ops a.tmps) = true then Oper.wp P o a w (fun a' w' => Q .normal a' w') Q else Q .normal (a.put o.dst undef) w
theorem last_of {R : Nat → SRel} {a0 : Act} {w0 : World} {q : Nat} {o : Oper} (hg : o.guard = none)
    (h : ∀ (a : Act) (w : World), Below w0.heap.size w0 w → UntouchedT ops q a0 a → a.tmps.size = a0.tmps.size → a.defers = a0.defers → (∀ j d, j ≠ q → dstAt ops j = some d → (R j).p (a.tmps[d]?.getD undef) w) → Oper.wp P o a w (fun a' w' => Q .normal a' w') Q) : LastOk P ops Q R a0 w0 q o := by
  intro a w hb hu hsz hdf hc
  rw [if_pos (by simp [Region.wanted, hg])]
  exact h a w hb hu hsz hdf hc
def StepsT (P : Program) (ops : Array Oper) (Q : Exit → Act → World → Prop) (R : Nat → SRel) (a0 : Act) (w0 : World) (q : Nat) : Nat → List Oper → Prop
  | _, [] => True
  | i, o :: l => (if i = q then LastOk P ops Q R a0 w0 q o else StepOkT P ops Q R a0 w0 q i o) ∧ StepsT P ops Q R a0 w0 q (i + 1) l
theorem stepsT_at {R : Nat → SRel} {a0 : Act} {w0 : World} {q : Nat} : ∀ (l : List Oper) (n i : Nat) (o : Oper), StepsT P ops Q R a0 w0 q n l → l[i]? = some o → if n + i = q then LastOk P ops Q R a0 w0 q o else StepOkT P ops Q R a0 w0 q (n + i) o
  | [], n, i, o, _, h => by simp at h
  | x :: l, n, 0, o, h1, h => by
      have : x = o := by simpa using h
      subst this
      exact h1.1
  | x :: l, n, i + 1, o, h1, h => by
      have := stepsT_at l (n + 1) i o h1.2 (by simpa using h)
      rw [show n + (i + 1) = n + 1 + i by omega]
      exact this
theorem wp_region_tail {id : Nat} {a0 : Act} {w0 : World} (R : Nat → SRel) (q : Nat) (hm : P.follows .mixedOrders = true) (he : edgesOk ops = true) (hd : dstsOk ops = true) (hz : slotsOk ops a0.tmps.size = true) (hX : tEdges ops q = true)
    (hstep : StepsT P ops Q R a0 w0 q 0 ops.toList) (hqn : q < ops.size) : (Code.region id ops true).wp P Q a0 w0 := by
  refine wp_region_any hm ?_
  have hlt : ∀ i d, dstAt ops i = some d → i < ops.size := fun i d h => by
    unfold dstAt at h
    rcases Nat.lt_or_ge i ops.size with h1 | h1
    · exact h1
    · rw [Array.getElem?_eq_none h1] at h; cases h
  have hdst : ∀ i j d e, i ≠ j → dstAt ops i = some d → dstAt ops j = some e → d ≠ e := by
    intro i j d e hij h1 h2
    have := List.all_eq_true.1 (List.all_eq_true.1 hd i (by simpa using hlt i d h1)) j (by simpa using hlt j e h2)
    rw [h1, h2] at this
    simpa [hij] using this
  have hslot : ∀ i d, dstAt ops i = some d → d < a0.tmps.size := by
    intro i d h1
    have := List.all_eq_true.1 hz i (by simpa using hlt i d h1)
    rw [h1] at this
    simpa using this
  refine wpAny_inv he (fun listed a w => (listed.getD q false = false ∧ (∀ k o, listed.getD k false = true → ops[k]? = some o → ∀ e ∈ o.after, Region.binds .any e = true → listed.getD e.on false = true) ∧ Below w0.drew.heap.size w0.drew w ∧ UntouchedT ops q a0 a ∧ a.tmps.size = a0.tmps.size ∧ a.defers = a0.defers ∧ ∀ j d, listed.getD j false = true → dstAt ops j = some d → (R j).p (a.tmps[d]?.getD undef) w) ∨ ((∀ j, j < ops.size → listed.getD j false = true) ∧ Q .normal a w)) ?_ ?_ _ _ _ _ (by simp) ?_ ?_
  · rintro listed a w i o hs (⟨hq, hcl, hb, hu, hsz, hdf, hR⟩ | ⟨hall, -⟩) hi h1 ho h2
    · have hil : i < listed.size := by omega
      by_cases hiq : i = q
      · subst hiq
        have hallj : ∀ j, j < ops.size → j ≠ i → listed.getD j false = true := by
          intro j hj hji
          have h5 := List.all_eq_true.1 hX j (by simpa using hj)
          rw [Bool.or_eq_true] at h5
          rcases h5 with h5 | h5
          · exact absurd (by simpa using h5) hji
          · have hsz0 : ops.size ≠ 0 := by omega
            obtain ⟨f, hf⟩ : ∃ f, ops.size = f + 1 := ⟨ops.size - 1, by omega⟩
            rw [hf] at h5
            obtain ⟨o', ho', e, he, hb', h6⟩ := path_on h5
            rw [ho] at ho'
            cases ho'
            have hl := h2 e he hb'
            rcases h6 with h6 | h6
            · rw [← h6]; exact hl
            · exact path_listed hcl f e.on j hl h6
        have hlast := stepsT_at ops.toList 0 i o hstep (by rw [Array.getElem?_toList]; exact ho)
        rw [if_pos (Nat.zero_add i)] at hlast
        have hL := hlast a w (below_step hb (Below.refl _ _).drew (Nat.le_refl _)) hu hsz hdf fun j d hj hjd => hR j d (hallj j (hlt j d hjd) hj) hjd
        refine wpOp_step ho fun K hK => ?_
        have hk : ∀ a' w', Q .normal a' w' → K a' w' := fun a' w' h => hK a' w' (.inr ⟨fun j hj => by
          by_cases hji : j = i
          · subst hji; simp [hil]
          · simpa [Array.getElem?_setIfInBounds_ne (Ne.symm hji)] using hallj j hj hji, h⟩)
        by_cases hw : Region.wanted o (yielded ops a.tmps) = true
        · rw [if_pos hw] at hL ⊢
          exact Oper.wp_mono (fun a' w' h => hk a' w' h) hL
        · rw [if_neg hw] at hL ⊢
          exact hk _ _ hL
      · have hst := stepsT_at ops.toList 0 i o hstep (by rw [Array.getElem?_toList]; exact ho)
        rw [if_neg (by omega), Nat.zero_add] at hst
        refine wpOp_step ho fun K hK => hst a w K (below_step hb (Below.refl _ _).drew (Nat.le_refl _)) hu (fun j d hj hjd => ?_) fun v w' hv hb' => hK _ _ (.inl ⟨?_, ?_, below_step hb' hb (Nat.le_refl _), ?_, ?_, ?_, ?_⟩)
        · obtain ⟨e, he1, he2⟩ := List.any_eq_true.1 hj
          have he1 : e ∈ o.after := Array.mem_toList_iff.1 he1
          simp only [Bool.and_eq_true, beq_iff_eq] at he2
          refine hR j d ?_ hjd
          rw [← he2.1]
          exact h2 e he1 he2.2
        · simpa [Array.getElem?_setIfInBounds_ne hiq] using hq
        · intro k o' hk ho' e he1 he2
          have hle : listed.getD e.on false = true := by
            by_cases hki : k = i
            · subst hki
              rw [ho] at ho'
              cases ho'
              exact h2 e he1 he2
            · have hk' : listed.getD k false = true := by simpa [Array.getElem?_setIfInBounds_ne (Ne.symm hki)] using hk
              exact hcl k o' hk' ho' e he1 he2
          by_cases hei : e.on = i
          · rw [hei]; simp [hil]
          · simpa [Array.getElem?_setIfInBounds_ne (Ne.symm hei)] using hle
        · intro s hs'
          have hns : o.dst ≠ some s := by
            have h6 := List.all_eq_true.1 hs' i (by simpa using hi)
            rw [Bool.or_eq_true] at h6
            rcases h6 with h6 | h6
            · exact absurd (by simpa using h6) hiq
            · unfold dstAt at h6
              rw [ho] at h6
              simpa using h6
          rw [← hu s hs']
          cases hd' : o.dst with
          | none => rfl
          | some d =>
            have hne : d ≠ s := fun e => hns (by rw [hd', e])
            simp [Act.put, Array.getElem?_setIfInBounds_ne hne]
        · cases hd' : o.dst <;> simp [Act.put, hsz]
        · cases hd' : o.dst <;> simp [Act.put, hdf]
        · intro j d hj hjd
          by_cases hij : i = j
          · subst hij
            have hd1 := hslot i d hjd
            have hod : o.dst = some d := by unfold dstAt at hjd; rw [ho] at hjd; exact hjd
            rw [hod]
            rw [← hsz] at hd1
            simp [Act.put, hd1]
            exact hv
          · have hlj : listed.getD j false = true := by
              simpa [Array.getElem?_setIfInBounds_ne hij] using hj
            have h3 := (R j).st _ _ _ hb' (hR j d hlj hjd)
            cases hd' : o.dst with
            | none => simpa [Act.put] using h3
            | some d' =>
              have hne : d' ≠ d := hdst i j d' d hij (by unfold dstAt; rw [ho]; exact hd') hjd
              simpa [Act.put, Array.getElem?_setIfInBounds_ne hne] using h3
    · have h3 := hall i hi
      rw [Array.getD_eq_getD_getElem?] at h3
      have hil : i < listed.size := by omega
      simp [hil] at h1 h3
      rw [h1] at h3
      cases h3
  · rintro listed a w (⟨hq, -⟩ | ⟨-, h⟩) hall
    · have := hall q hqn
      rw [hq] at this
      cases this
    · exact h
  · unfold left
    rw [Array.toList_replicate]
    exact Nat.le_trans (List.length_filter_le _ _) (by simp)
  · have h0 : ∀ j, (Array.replicate ops.size false).getD j false = false := fun j => by
      rw [Array.getD_eq_getD_getElem?, Array.getElem?_replicate]
      split <;> simp
    exact .inl ⟨h0 q, fun k o hk => absurd hk (by rw [h0]; simp), Below.refl _ _, fun _ _ => rfl, rfl, rfl, fun j d hj => absurd hj (by rw [h0]; simp)⟩
end
end Go.Proofs.Ytakooljbkjnilaa
