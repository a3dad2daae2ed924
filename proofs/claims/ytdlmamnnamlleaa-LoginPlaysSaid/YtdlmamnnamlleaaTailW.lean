/- A region that draws its order, in which one operation (q) writes what was there, the last (z) waits for all and does what it will; all that q waits for is calm, all else yields plain values and leaves the world. No program is named here. -/
import Derived.Test.YtdlmamnnamlleaaTail
namespace Go.Proofs.Ytdlmamnnamlleaa
open Go Go.RowKit

section
variable {P : Program} {ops : Array Oper} {Q : Exit → Act → World → Prop}
def mixR (V : Nat → Option Value) (S : Nat → SRel) (i : Nat) : SRel := match V i with | some c => SRel.is c | none => S i
theorem mixR_some {V : Nat → Option Value} {S : Nat → SRel} {i : Nat} {c v : Value} {w : World} (h : V i = some c) : (mixR V S i).p v w ↔ v = c := by
  unfold mixR; rw [h]; exact Iff.rfl
/-- The one that writes. -/
def WriteOkW (P : Program) (ops : Array Oper) (Q : Exit → Act → World → Prop) (R : Nat → SRel) (a0 : Act) (w0 : World) (z : Nat) (Φ : Value → World → Prop) (o : Oper) : Prop :=
  ∀ (a : Act) (w : World) (K : Act → World → Prop), Below w0.heap.size w0 w → UntouchedT ops z a0 a → Came ops R o a w → (∀ v w', Φ v w' → K (a.put o.dst v) w') → if Region.wanted o (yielded ops a.tmps) = true then Oper.wp P o a w K Q else K (a.put o.dst undef) w
theorem write_of {R : Nat → SRel} {a0 : Act} {w0 : World} {z : Nat} {Φ : Value → World → Prop} {o : Oper} (hg : o.guard = none)
    (h : ∀ (a : Act) (w : World) (K : Act → World → Prop), Below w0.heap.size w0 w → UntouchedT ops z a0 a → Came ops R o a w → (∀ v w', Φ v w' → K (a.put o.dst v) w') → Oper.wp P o a w K Q) : WriteOkW P ops Q R a0 w0 z Φ o := by
  intro a w K hb hu hc hK
  rw [if_pos (by simp [Region.wanted, hg])]
  exact h a w K hb hu hc hK
/-- One that may run on either side of the write. -/
def PureOk (P : Program) (ops : Array Oper) (Q : Exit → Act → World → Prop) (V : Nat → Option Value) (a0 : Act) (z i : Nat) (o : Oper) : Prop :=
  ∃ c, V i = some c ∧ ∀ (a : Act) (w : World) (K : Act → World → Prop), UntouchedT ops z a0 a → Came ops (fun j => match V j with | some c => SRel.is c | none => SRel.any) o a w → K (a.put o.dst c) w → if Region.wanted o (yielded ops a.tmps) = true then Oper.wp P o a w K Q else K (a.put o.dst undef) w
theorem pure_of {V : Nat → Option Value} {a0 : Act} {z i : Nat} {o : Oper} {c : Value} (hg : o.guard = none) (hV : V i = some c)
    (h : ∀ (a : Act) (w : World) (K : Act → World → Prop), UntouchedT ops z a0 a → Came ops (fun j => match V j with | some c => SRel.is c | none => SRel.any) o a w → K (a.put o.dst c) w → Oper.wp P o a w K Q) : PureOk P ops Q V a0 z i o := by
  refine ⟨c, hV, fun a w K hu hc hK => ?_⟩
  rw [if_pos (by simp [Region.wanted, hg])]
  exact h a w K hu hc hK
/-- The last one. -/
def EndOk (P : Program) (ops : Array Oper) (Q : Exit → Act → World → Prop) (V : Nat → Option Value) (a0 : Act) (q z : Nat) (Φ : Value → World → Prop) (o : Oper) : Prop :=
  ∀ (a : Act) (w : World), UntouchedT ops z a0 a → a.tmps.size = a0.tmps.size → a.defers = a0.defers → (∀ j d c, j ≠ z → V j = some c → dstAt ops j = some d → a.tmps[d]?.getD undef = c) → (∃ v, Φ v w ∧ ∀ d, dstAt ops q = some d → a.tmps[d]?.getD undef = v) →
    if Region.wanted o (yielded ops a.tmps) = true then Oper.wp P o a w (fun a' w' => Q .normal a' w') Q else Q .normal (a.put o.dst undef) w
theorem end_of {V : Nat → Option Value} {a0 : Act} {q z : Nat} {Φ : Value → World → Prop} {o : Oper} (hg : o.guard = none)
    (h : ∀ (a : Act) (w : World), UntouchedT ops z a0 a → a.tmps.size = a0.tmps.size → a.defers = a0.defers → (∀ j d c, j ≠ z → V j = some c → dstAt ops j = some d → a.tmps[d]?.getD undef = c) → (∃ v, Φ v w ∧ ∀ d, dstAt ops q = some d → a.tmps[d]?.getD undef = v) → Oper.wp P o a w (fun a' w' => Q .normal a' w') Q) : EndOk P ops Q V a0 q z Φ o := by
  intro a w hu hsz hdf hc hf
  rw [if_pos (by simp [Region.wanted, hg])]
  exact h a w hu hsz hdf hc hf
def StepsW (P : Program) (ops : Array Oper) (Q : Exit → Act → World → Prop) (V : Nat → Option Value) (S : Nat → SRel) (a0 : Act) (w0 : World) (q z : Nat) (Φ : Value → World → Prop) : Nat → List Oper → Prop
  | _, [] => True
  | i, o :: l => (if i = q then WriteOkW P ops Q (mixR V S) a0 w0 z Φ o else if i = z then EndOk P ops Q V a0 q z Φ o else if pathB ops ops.size q i = true then StepOkT P ops Q (mixR V S) a0 w0 z i o else PureOk P ops Q V a0 z i o) ∧ StepsW P ops Q V S a0 w0 q z Φ (i + 1) l
theorem stepsW_at {V : Nat → Option Value} {S : Nat → SRel} {a0 : Act} {w0 : World} {q z : Nat} {Φ : Value → World → Prop} : ∀ (l : List Oper) (n i : Nat) (o : Oper), StepsW P ops Q V S a0 w0 q z Φ n l → l[i]? = some o →
    if n + i = q then WriteOkW P ops Q (mixR V S) a0 w0 z Φ o else if n + i = z then EndOk P ops Q V a0 q z Φ o else if pathB ops ops.size q (n + i) = true then StepOkT P ops Q (mixR V S) a0 w0 z (n + i) o else PureOk P ops Q V a0 z (n + i) o
  | [], n, i, o, _, h => by simp at h
  | x :: l, n, 0, o, h1, h => by
      have : x = o := by simpa using h
      subst this
      exact h1.1
  | x :: l, n, i + 1, o, h1, h => by
      have := stepsW_at l (n + 1) i o h1.2 (by simpa using h)
      rw [show n + (i + 1) = n + 1 + i by omega]
      exact this
theorem wp_region_write {id : Nat} {a0 : Act} {w0 : World} (V : Nat → Option Value) (S : Nat → SRel) (q z : Nat) (Φ : Value → World → Prop) (hm : P.follows .mixedOrders = true) (he : edgesOk ops = true) (hd : dstsOk ops = true) (hz : slotsOk ops a0.tmps.size = true) (hX : tEdges ops z = true)
    (hqz : q ≠ z) (hqV : V q = none) (hqn : q < ops.size) (hzn : z < ops.size) (hstep : StepsW P ops Q V S a0 w0 q z Φ 0 ops.toList) : (Code.region id ops true).wp P Q a0 w0 := by
  refine wp_region_any hm ?_
  have hlt : ∀ i d, dstAt ops i = some d → i < ops.size := fun i d h => by
    unfold dstAt at h
    rcases Nat.lt_or_ge i ops.size with h1 | h1
    · exact h1
    · rw [Array.getElem?_eq_none h1] at h; cases h
  have hdst : ∀ i j d e, i ≠ j → dstAt ops i = some d → dstAt ops j = some e → d ≠ e := by
    intro i j d e hij h1 h2
    have := List.all_eq_true.1 (List.all_eq_true.1 hd i (by simpa using hlt i d h1)) j (by simpa using hlt j e h2)
    rw [h1, h2] at this
    simpa [hij] using this
  have hslot : ∀ i d, dstAt ops i = some d → d < a0.tmps.size := by
    intro i d h1
    have := List.all_eq_true.1 hz i (by simpa using hlt i d h1)
    rw [h1] at this
    simpa using this
  obtain ⟨f, hf⟩ : ∃ f, ops.size = f + 1 := ⟨ops.size - 1, by omega⟩
  have hcl2 : ∀ (listed : Array Bool) (i : Nat) (o : Oper), i < listed.size → (∀ k o, listed.getD k false = true → ops[k]? = some o → ∀ e ∈ o.after, Region.binds .any e = true → listed.getD e.on false = true) → ops[i]? = some o → (∀ e ∈ o.after, Region.binds .any e = true → listed.getD e.on false = true) →
      (∀ k o, (listed.setIfInBounds i true).getD k false = true → ops[k]? = some o → ∀ e ∈ o.after, Region.binds .any e = true → (listed.setIfInBounds i true).getD e.on false = true) := by
    intro listed i o hil hcl ho h2 k o' hk ho' e he1 he2
    have hle : listed.getD e.on false = true := by
      by_cases hki : k = i
      · subst hki
        rw [ho] at ho'
        cases ho'
        exact h2 e he1 he2
      · have hk' : listed.getD k false = true := by simpa [Array.getElem?_setIfInBounds_ne (Ne.symm hki)] using hk
        exact hcl k o' hk' ho' e he1 he2
    by_cases hei : e.on = i
    · rw [hei]; simp [hil]
    · simpa [Array.getElem?_setIfInBounds_ne (Ne.symm hei)] using hle
  have hpath : ∀ (listed : Array Bool) (i j : Nat) (o : Oper), (∀ k o, listed.getD k false = true → ops[k]? = some o → ∀ e ∈ o.after, Region.binds .any e = true → listed.getD e.on false = true) →
      ops[i]? = some o → (∀ e ∈ o.after, Region.binds .any e = true → listed.getD e.on false = true) → pathB ops ops.size i j = true → listed.getD j false = true := by
    intro listed i j o hcl ho h2 hp
    rw [hf] at hp
    obtain ⟨o', ho', e, he, hb', h6⟩ := path_on hp
    rw [ho] at ho'
    cases ho'
    have hl := h2 e he hb'
    rcases h6 with h6 | h6
    · rw [← h6]; exact hl
    · exact path_listed hcl f e.on j hl h6
  have hunt : ∀ (a : Act) (i : Nat) (o : Oper) (v : Value), i ≠ z → ops[i]? = some o → i < ops.size → UntouchedT ops z a0 a → UntouchedT ops z a0 (a.put o.dst v) := by
    intro a i o v hiz ho hi hu s hs'
    have hns : o.dst ≠ some s := by
      have h6 := List.all_eq_true.1 hs' i (by simpa using hi)
      rw [Bool.or_eq_true] at h6
      rcases h6 with h6 | h6
      · exact absurd (by simpa using h6) hiz
      · unfold dstAt at h6
        rw [ho] at h6
        simpa using h6
    rw [← hu s hs']
    cases hd' : o.dst with
    | none => rfl
    | some d =>
      have hne : d ≠ s := fun e => hns (by rw [hd', e])
      simp [Act.put, Array.getElem?_setIfInBounds_ne hne]
  have hput : ∀ (a : Act) (i : Nat) (o : Oper) (v : Value) (d : Tmp), ops[i]? = some o → dstAt ops i = some d → a.tmps.size = a0.tmps.size → (a.put o.dst v).tmps[d]?.getD undef = v := by
    intro a i o v d ho hjd hsz
    have hd1 := hslot i d hjd
    have hod : o.dst = some d := by unfold dstAt at hjd; rw [ho] at hjd; exact hjd
    rw [hod]
    rw [← hsz] at hd1
    simp [Act.put, hd1]
  have hoth : ∀ (a : Act) (i j : Nat) (o : Oper) (v : Value) (d : Tmp), i ≠ j → ops[i]? = some o → dstAt ops j = some d → (a.put o.dst v).tmps[d]?.getD undef = a.tmps[d]?.getD undef := by
    intro a i j o v d hij ho hjd
    cases hd' : o.dst with
    | none => rfl
    | some d' =>
      have hne : d' ≠ d := hdst i j d' d hij (by unfold dstAt; rw [ho]; exact hd') hjd
      simp [Act.put, Array.getElem?_setIfInBounds_ne hne]
  have hsz2 : ∀ (a : Act) (o : Oper) (v : Value), (a.put o.dst v).tmps.size = a.tmps.size := by
    intro a o v; cases hd' : o.dst <;> simp [Act.put]
  have hdf2 : ∀ (a : Act) (o : Oper) (v : Value), (a.put o.dst v).defers = a.defers := by
    intro a o v; cases hd' : o.dst <;> simp [Act.put]
  have hset : ∀ (listed : Array Bool) (i j : Nat), i ≠ j → (listed.setIfInBounds i true).getD j false = listed.getD j false := by
    intro listed i j hij; simp [Array.getElem?_setIfInBounds_ne hij]
  refine wpAny_inv he (fun listed a w => ((∀ k o, listed.getD k false = true → ops[k]? = some o → ∀ e ∈ o.after, Region.binds .any e = true → listed.getD e.on false = true) ∧ listed.getD z false = false ∧ UntouchedT ops z a0 a ∧ a.tmps.size = a0.tmps.size ∧ a.defers = a0.defers ∧
      (∀ j d c, listed.getD j false = true → V j = some c → dstAt ops j = some d → a.tmps[d]?.getD undef = c) ∧
      ((listed.getD q false = false ∧ Below w0.drew.heap.size w0.drew w ∧ ∀ j d, listed.getD j false = true → dstAt ops j = some d → (mixR V S j).p (a.tmps[d]?.getD undef) w) ∨ (listed.getD q false = true ∧ ∃ v, Φ v w ∧ ∀ d, dstAt ops q = some d → a.tmps[d]?.getD undef = v))) ∨ ((∀ j, j < ops.size → listed.getD j false = true) ∧ Q .normal a w)) ?_ ?_ _ _ _ _ (by simp) ?_ ?_
  · rintro listed a w i o hs (⟨hcl, hzl, hu, hsz, hdf, hV, hI⟩ | ⟨hall, -⟩) hi h1 ho h2
    · have hil : i < listed.size := by omega
      have hst := stepsW_at ops.toList 0 i o hstep (by rw [Array.getElem?_toList]; exact ho)
      rw [Nat.zero_add] at hst
      have hcl' := hcl2 listed i o hil hcl ho h2
      have h1' : listed.getD i false = false := by
        rw [Array.getD_eq_getD_getElem?] at h1 ⊢
        simp [hil] at h1 ⊢
        exact h1
      have hcame : ∀ j, (o.after.toList.any fun e => e.on == j && Region.binds .any e) = true → listed.getD j false = true := by
        intro j hj
        obtain ⟨e, he1, he2⟩ := List.any_eq_true.1 hj
        have he1 : e ∈ o.after := Array.mem_toList_iff.1 he1
        simp only [Bool.and_eq_true, beq_iff_eq] at he2
        rw [← he2.1]
        exact h2 e he1 he2.2
      by_cases hiq : i = q
      · -- the write
        subst hiq
        rw [if_pos rfl] at hst
        rcases hI with ⟨hql, hb, hR⟩ | ⟨hql, -⟩
        · refine wpOp_step ho fun K hK => hst a w K (below_step hb (Below.refl _ _).drew (Nat.le_refl _)) hu (fun j d hj hjd => hR j d (hcame j hj) hjd) fun v w' hv => hK _ _ (.inl ⟨hcl', by rw [hset _ _ _ hqz]; exact hzl, hunt a i o v hqz ho hi hu, by rw [hsz2]; exact hsz, by rw [hdf2]; exact hdf, fun j d c hj hVj hjd => ?_, .inr ⟨by simp [hil], v, hv, fun d hd' => hput a i o v d ho hd' hsz⟩⟩)
          by_cases hij : i = j
          · subst hij; rw [hqV] at hVj; cases hVj
          · rw [hset _ _ _ hij] at hj
            rw [hoth a i j o v d hij ho hjd]
            exact hV j d c hj hVj hjd
        · rw [h1'] at hql; cases hql
      · rw [if_neg hiq] at hst
        by_cases hiz : i = z
        · -- the last
          subst hiz
          rw [if_pos rfl] at hst
          have hallj : ∀ j, j < ops.size → j ≠ i → listed.getD j false = true := by
            intro j hj hji
            have h5 := List.all_eq_true.1 hX j (by simpa using hj)
            rw [Bool.or_eq_true] at h5
            rcases h5 with h5 | h5
            · exact absurd (by simpa using h5) hji
            · exact hpath listed i j o hcl ho h2 h5
          have hql := hallj q hqn (Ne.symm hiq)
          have hF : ∃ v, Φ v w ∧ ∀ d, dstAt ops q = some d → a.tmps[d]?.getD undef = v := by
            rcases hI with ⟨hq2, -⟩ | ⟨-, hF⟩
            · rw [hql] at hq2; cases hq2
            · exact hF
          have hL := hst a w hu hsz hdf (fun j d c hj hVj hjd => hV j d c (hallj j (hlt j d hjd) hj) hVj hjd) hF
          refine wpOp_step ho fun K hK => ?_
          have hk : ∀ a' w', Q .normal a' w' → K a' w' := fun a' w' h => hK a' w' (.inr ⟨fun j hj => by
            by_cases hji : j = i
            · subst hji; simp [hil]
            · rw [hset _ _ _ (Ne.symm hji)]; exact hallj j hj hji, h⟩)
          by_cases hw : Region.wanted o (yielded ops a.tmps) = true
          · rw [if_pos hw] at hL ⊢
            exact Oper.wp_mono (fun a' w' h => hk a' w' h) hL
          · rw [if_neg hw] at hL ⊢
            exact hk _ _ hL
        · rw [if_neg hiz] at hst
          by_cases hp : pathB ops ops.size q i = true
          · -- ahead of the write
            rw [if_pos hp] at hst
            rcases hI with ⟨hql, hb, hR⟩ | ⟨hql, -⟩
            · refine wpOp_step ho fun K hK => hst a w K (below_step hb (Below.refl _ _).drew (Nat.le_refl _)) hu (fun j d hj hjd => hR j d (hcame j hj) hjd) fun v w' hv hb' => hK _ _ (.inl ⟨hcl', by rw [hset _ _ _ hiz]; exact hzl, hunt a i o v hiz ho hi hu, by rw [hsz2]; exact hsz, by rw [hdf2]; exact hdf, fun j d c hj hVj hjd => ?_, .inl ⟨by rw [hset _ _ _ hiq]; exact hql, below_step hb' hb (Nat.le_refl _), fun j d hj hjd => ?_⟩⟩)
              · by_cases hij : i = j
                · subst hij
                  rw [hput a i o v d ho hjd hsz]
                  exact (mixR_some hVj).1 hv
                · rw [hset _ _ _ hij] at hj
                  rw [hoth a i j o v d hij ho hjd]
                  exact hV j d c hj hVj hjd
              · by_cases hij : i = j
                · subst hij
                  rw [hput a i o v d ho hjd hsz]
                  exact hv
                · rw [hset _ _ _ hij] at hj
                  rw [hoth a i j o v d hij ho hjd]
                  exact (mixR V S j).st _ _ _ hb' (hR j d hj hjd)
            · have hqo : ∃ oq, ops[q]? = some oq := ⟨ops[q], Array.getElem?_eq_getElem hqn⟩
              obtain ⟨oq, hoq⟩ := hqo
              rw [hpath listed q i oq hcl hoq (fun e he1 he2 => hcl q oq hql hoq e he1 he2) hp] at h1'
              cases h1'
          · -- on either side
            rw [if_neg hp] at hst
            obtain ⟨c, hc, hst⟩ := hst
            refine wpOp_step ho fun K hK => hst a w K hu (fun j d hj hjd => ?_) (hK _ _ (.inl ⟨hcl', by rw [hset _ _ _ hiz]; exact hzl, hunt a i o c hiz ho hi hu, by rw [hsz2]; exact hsz, by rw [hdf2]; exact hdf, fun j d c' hj hVj hjd => ?_, ?_⟩))
            · show (match V j with | some c => SRel.is c | none => SRel.any).p _ _
              cases hVj : V j with
              | none => trivial
              | some cj => exact hV j d cj (hcame j hj) hVj hjd
            · by_cases hij : i = j
              · subst hij
                rw [hput a i o c d ho hjd hsz]
                rw [hc] at hVj
                cases hVj
                rfl
              · rw [hset _ _ _ hij] at hj
                rw [hoth a i j o c d hij ho hjd]
                exact hV j d c' hj hVj hjd
            · rcases hI with ⟨hql, hb, hR⟩ | ⟨hql, hF⟩
              · refine .inl ⟨by rw [hset _ _ _ hiq]; exact hql, hb, fun j d hj hjd => ?_⟩
                by_cases hij : i = j
                · subst hij
                  rw [hput a i o c d ho hjd hsz]
                  exact (mixR_some hc).2 rfl
                · rw [hset _ _ _ hij] at hj
                  rw [hoth a i j o c d hij ho hjd]
                  exact hR j d hj hjd
              · obtain ⟨v, hv1, hv2⟩ := hF
                exact .inr ⟨by rw [hset _ _ _ hiq]; exact hql, v, hv1, fun d hd' => by rw [hoth a i q o c d hiq ho hd']; exact hv2 d hd'⟩
    · have h3 := hall i hi
      rw [Array.getD_eq_getD_getElem?] at h3
      have hil : i < listed.size := by omega
      simp [hil] at h1 h3
      rw [h1] at h3
      cases h3
  · rintro listed a w (⟨-, hq, -⟩ | ⟨-, h⟩) hall
    · have := hall z hzn
      rw [hq] at this
      cases this
    · exact h
  · unfold left
    rw [Array.toList_replicate]
    exact Nat.le_trans (List.length_filter_le _ _) (by simp)
  · have h0 : ∀ j, (Array.replicate ops.size false).getD j false = false := fun j => by
      rw [Array.getD_eq_getD_getElem?, Array.getElem?_replicate]
      split <;> simp
    exact .inl ⟨fun k o hk => absurd hk (by rw [h0]; simp), h0 z, fun _ _ => rfl, rfl, rfl, fun j d c hj => absurd hj (by rw [h0]; simp), .inl ⟨h0 q, Below.refl _ _, fun j d hj => absurd hj (by rw [h0]; simp)⟩⟩
end
end Go.Proofs.Ytdlmamnnamlleaa
