/- A region that draws its order, whose operations yield plain values, but for one that lays a row, one that appends it, and one store behind all else: one proof an operation, no branching over orders. No program is named here. -/
import Derived.Test.YtjihklaocgmlpaaFresh
namespace Go.Proofs.Ytjihklaocgmlpaa
open Go Go.RowKit

section
variable {P : Program} {ops : Array Oper} {Q : Exit → Act → World → Prop}
def gRel (F : Nat → Option Value) (i : Nat) : SRel := match F i with | some c => SRel.is c | none => SRel.any
theorem gRel_any {F : Nat → Option Value} {i : Nat} {v : Value} {w w' : World} (h : (gRel F i).p v w) : (gRel F i).p v w' := by
  unfold gRel at *
  cases h1 : F i with
  | none => trivial
  | some c => rw [h1] at h; exact h
/-- What the three operations leave behind. -/
structure GWorld where
  Z : World → Prop
  s : Nat
  p : Nat
  q : Nat
  ds : Tmp
  dp : Tmp
  S1 : Value → World → Prop
  S2 : Value → World → Prop
  S3 : World → Prop
structure GInv (ops : Array Oper) (F : Nat → Option Value) (X : GWorld) (a0 : Act) (w0 : World) (L : Nat → Bool) (a : Act) (w : World) : Prop where
  un : Untouched ops a0 a
  sz : a.tmps.size = a0.tmps.size
  df : a.defers = a0.defers
  val : ∀ j d, L j = true → dstAt ops j = some d → (gRel F j).p (a.tmps[d]?.getD undef) w
  pre : L X.p = false → Below w0.heap.size w0 w
  sl : L X.p = false → L X.s = true → X.S1 (a.tmps[X.ds]?.getD undef) w
  ap : L X.p = true → L X.q = false → X.S2 (a.tmps[X.dp]?.getD undef) w
  en : L X.q = true → X.S3 w
  bel : L X.q = false → X.Z w
  ps : L X.p = true → L X.s = true
  last : L X.q = true → ∀ j, j < ops.size → L j = true
  cl : ∀ k o, L k = true → ops[k]? = some o → ∀ e ∈ o.after, Region.binds .any e = true → L e.on = true
def GStepOk (P : Program) (ops : Array Oper) (Q : Exit → Act → World → Prop) (F : Nat → Option Value) (X : GWorld) (a0 : Act) (w0 : World) (i : Nat) (o : Oper) : Prop :=
  ∀ (a : Act) (w : World) (K : Act → World → Prop), Untouched ops a0 a → Came ops (gRel F) o a w →
    (i = X.s → Below w0.heap.size w0 w → X.Z w → (∀ v w', X.S1 v w' → Below w0.heap.size w0 w' → X.Z w' → K (a.put o.dst v) w') → if Region.wanted o (yielded ops a.tmps) = true then Oper.wp P o a w K Q else K (a.put o.dst undef) w) ∧
    (i = X.p → Below w0.heap.size w0 w → X.Z w → X.S1 (a.tmps[X.ds]?.getD undef) w → (∀ v w', X.S2 v w' → X.Z w' → K (a.put o.dst v) w') → if Region.wanted o (yielded ops a.tmps) = true then Oper.wp P o a w K Q else K (a.put o.dst undef) w) ∧
    (i = X.q → X.Z w → X.S2 (a.tmps[X.dp]?.getD undef) w → (∀ v w', X.S3 w' → K (a.put o.dst v) w') → if Region.wanted o (yielded ops a.tmps) = true then Oper.wp P o a w K Q else K (a.put o.dst undef) w) ∧
    (i ≠ X.s → i ≠ X.p → i ≠ X.q → X.Z w → (∀ v, (gRel F i).p v w → K (a.put o.dst v) w) → if Region.wanted o (yielded ops a.tmps) = true then Oper.wp P o a w K Q else K (a.put o.dst undef) w)
def GStepsOk (P : Program) (ops : Array Oper) (Q : Exit → Act → World → Prop) (F : Nat → Option Value) (X : GWorld) (a0 : Act) (w0 : World) : Nat → List Oper → Prop
  | _, [] => True
  | i, o :: l => GStepOk P ops Q F X a0 w0 i o ∧ GStepsOk P ops Q F X a0 w0 (i + 1) l
theorem gsteps_at {F : Nat → Option Value} {X : GWorld} {a0 : Act} {w0 : World} : ∀ (l : List Oper) (n i : Nat) (o : Oper), GStepsOk P ops Q F X a0 w0 n l → l[i]? = some o → GStepOk P ops Q F X a0 w0 (n + i) o
  | [], n, i, o, _, h => by simp at h
  | x :: l, n, 0, o, h1, h => by
      have : x = o := by simpa using h
      subst this
      exact h1.1
  | x :: l, n, i + 1, o, h1, h => by
      have := gsteps_at l (n + 1) i o h1.2 (by simpa using h)
      rw [show n + (i + 1) = n + 1 + i by omega]
      exact this
/-- The append waits for the row, the store for all. -/
def gEdges (ops : Array Oper) (s p q : Nat) : Bool :=
  ((ops[p]?).map fun o => o.after.toList.any fun e => e.on == s && Region.binds .any e).getD false &&
  (List.range ops.size).all fun j => j == q || ((ops[q]?).map fun o => o.after.toList.any fun e => Region.binds .any e && (e.on == j || ((ops[e.on]?).map fun o' => o'.after.toList.any fun e' => e'.on == j && Region.binds .any e').getD false)).getD false
theorem wp_region_grow {id : Nat} {a0 : Act} {w0 : World} (F : Nat → Option Value) (X : GWorld) (hm : P.follows .mixedOrders = true) (he : edgesOk ops = true) (hd : dstsOk ops = true) (hz : slotsOk ops a0.tmps.size = true)
    (hX : gEdges ops X.s X.p X.q = true) (hn : (X.s == X.p || X.s == X.q || X.p == X.q) = false) (hlt3 : X.s < ops.size ∧ X.p < ops.size ∧ X.q < ops.size) (hds : dstAt ops X.s = some X.ds) (hdp : dstAt ops X.p = some X.dp) (hFs : F X.s = none ∧ F X.p = none ∧ F X.q = none) (hZ : X.Z w0.drew)
    (hstep : GStepsOk P ops Q F X a0 w0 0 ops.toList)
    (hend : ∀ (a : Act) (w : World), X.S3 w → Untouched ops a0 a → a.tmps.size = a0.tmps.size → a.defers = a0.defers → Q .normal a w) :
    (Code.region id ops true).wp P Q a0 w0 := by
  refine wp_region_any hm ?_
  simp only [Bool.or_eq_false_iff, beq_eq_false_iff_ne] at hn
  obtain ⟨⟨hsp, hsq⟩, hpq⟩ := hn
  unfold gEdges at hX
  rw [Bool.and_eq_true] at hX
  obtain ⟨hXp, hXq⟩ := hX
  have hlt : ∀ i d, dstAt ops i = some d → i < ops.size := fun i d h => by
    unfold dstAt at h
    rcases Nat.lt_or_ge i ops.size with h1 | h1
    · exact h1
    · rw [Array.getElem?_eq_none h1] at h; cases h
  have hdst : ∀ i j d e, i ≠ j → dstAt ops i = some d → dstAt ops j = some e → d ≠ e := by
    intro i j d e hij h1 h2
    have := List.all_eq_true.1 (List.all_eq_true.1 hd i (by simpa using hlt i d h1)) j (by simpa using hlt j e h2)
    rw [h1, h2] at this
    simpa [hij] using this
  have hslot : ∀ i d, dstAt ops i = some d → d < a0.tmps.size := by
    intro i d h1
    have := List.all_eq_true.1 hz i (by simpa using hlt i d h1)
    rw [h1] at this
    simpa using this
  refine wpAny_inv he (fun listed a w => listed.size = ops.size ∧ GInv ops F X a0 w0 (fun i => listed.getD i false) a w) ?_ ?_ _ _ _ _ (by simp) ?_ ?_
  · rintro listed a w i o hs ⟨-, I⟩ hi h1 ho h2
    have hs' : (listed.setIfInBounds i true).size = ops.size := by simpa using hs
    have hst := gsteps_at ops.toList 0 i o hstep (by rw [Array.getElem?_toList]; exact ho)
    rw [Nat.zero_add] at hst
    have hil : i < listed.size := by omega
    have hli : listed.getD i false = false := by simpa [hil] using h1
    have hLi : (listed.setIfInBounds i true).getD i false = true := by simp [hil]
    have hLo : ∀ j, j ≠ i → (listed.setIfInBounds i true).getD j false = listed.getD j false := fun j hj => by simp [Array.getElem?_setIfInBounds_ne (Ne.symm hj)]
    have hun : ∀ v, Untouched ops a0 (a.put o.dst v) := by
      intro v s hs'
      have hns : o.dst ≠ some s := by
        have := List.all_eq_true.1 hs' o (Array.mem_toList_iff.2 (Array.mem_of_getElem? ho))
        simpa using this
      rw [← I.un s hs']
      cases hd' : o.dst with
      | none => rfl
      | some d =>
        have hne : d ≠ s := fun e => hns (by rw [hd', e])
        simp [Act.put, Array.getElem?_setIfInBounds_ne hne]
    have hsz : ∀ v, (a.put o.dst v).tmps.size = a0.tmps.size := fun v => by cases hd' : o.dst <;> simp [Act.put, I.sz]
    have hdf : ∀ v, (a.put o.dst v).defers = a0.defers := fun v => by cases hd' : o.dst <;> simp [Act.put, I.df]
    have hother : ∀ v j d, j ≠ i → dstAt ops j = some d → (a.put o.dst v).tmps[d]?.getD undef = a.tmps[d]?.getD undef := by
      intro v j d hj hjd
      cases hd' : o.dst with
      | none => rfl
      | some d' =>
        have hne : d' ≠ d := hdst i j d' d (Ne.symm hj) (by unfold dstAt; rw [ho]; exact hd') hjd
        simp [Act.put, Array.getElem?_setIfInBounds_ne hne]
    have hown : ∀ v d, dstAt ops i = some d → (a.put o.dst v).tmps[d]?.getD undef = v := by
      intro v d hid
      have hd1 := hslot i d hid
      have hod : o.dst = some d := by unfold dstAt at hid; rw [ho] at hid; exact hid
      rw [hod]
      rw [← I.sz] at hd1
      simp [Act.put, hd1]
    have hcame : Came ops (gRel F) o a w := by
      intro j d hj hjd
      obtain ⟨e, he1, he2⟩ := List.any_eq_true.1 hj
      have he1 : e ∈ o.after := Array.mem_toList_iff.1 he1
      simp only [Bool.and_eq_true, beq_iff_eq] at he2
      have hjl : listed.getD j false = true := by rw [← he2.1]; exact h2 e he1 he2.2
      exact I.val j d hjl hjd
    have hq0 : listed.getD X.q false = false := by
      cases hb : listed.getD X.q false with
      | false => rfl
      | true => have := I.last hb i hi; rw [hli] at this; cases this
    have hvals : ∀ v w', (i ≠ X.s → i ≠ X.p → i ≠ X.q → (gRel F i).p v w) → ∀ j d, (listed.setIfInBounds i true).getD j false = true → dstAt ops j = some d → (gRel F j).p ((a.put o.dst v).tmps[d]?.getD undef) w' := by
      intro v w' hv j d hj hjd
      by_cases hji : j = i
      · subst hji
        rw [hown v d hjd]
        by_cases e1 : j = X.s
        · subst e1; unfold gRel; rw [hFs.1]; trivial
        · by_cases e2 : j = X.p
          · subst e2; unfold gRel; rw [hFs.2.1]; trivial
          · by_cases e3 : j = X.q
            · subst e3; unfold gRel; rw [hFs.2.2]; trivial
            · exact gRel_any (hv e1 e2 e3)
      · rw [hLo j hji] at hj
        rw [hother v j d hji hjd]
        exact gRel_any (I.val j d hj hjd)
    have hcl : ∀ k o', (listed.setIfInBounds i true).getD k false = true → ops[k]? = some o' → ∀ e ∈ o'.after, Region.binds .any e = true → (listed.setIfInBounds i true).getD e.on false = true := by
      intro k o' hk ho' e he1 he2
      have hle : listed.getD e.on false = true := by
        by_cases hki : k = i
        · subst hki
          rw [ho] at ho'
          cases ho'
          exact h2 e he1 he2
        · rw [hLo k hki] at hk
          exact I.cl k o' hk ho' e he1 he2
      by_cases hei : e.on = i
      · rw [hei]; exact hLi
      · rw [hLo _ hei]; exact hle
    refine wpOp_step ho fun K hK => ?_
    obtain ⟨k1, k2, k3, k4⟩ := hst a w K I.un hcame
    by_cases e1 : i = X.s
    · have hp0 : listed.getD X.p false = false := by
        cases hb : listed.getD X.p false with
        | false => rfl
        | true => have := I.ps hb; rw [← e1, hli] at this; cases this
      refine k1 e1 (I.pre hp0) (I.bel hq0) fun v w' hS hb' hz' => hK _ _ ⟨hs', ⟨hun v, hsz v, hdf v, hvals v w' (fun h => absurd e1 h), fun _ => hb', fun _ _ => ?_, fun h => ?_, fun h => ?_, fun _ => hz', fun _ => by rw [← e1]; exact hLi, fun h => ?_, hcl⟩⟩
      · rw [hown v X.ds (by rw [e1]; exact hds)]; exact hS
      · rw [hLo _ (by rw [e1]; exact fun e => hsp e.symm), hp0] at h; cases h
      · rw [hLo _ (by rw [e1]; exact fun e => hsq e.symm), hq0] at h; cases h
      · rw [hLo _ (by rw [e1]; exact fun e => hsq e.symm), hq0] at h; cases h
    · by_cases e2 : i = X.p
      · have hs1 : listed.getD X.s false = true := by
          subst e2
          rw [ho] at hXp
          obtain ⟨e, he1, he2⟩ := List.any_eq_true.1 (show (o.after.toList.any fun e => e.on == X.s && Region.binds .any e) = true from hXp)
          have he1 : e ∈ o.after := Array.mem_toList_iff.1 he1
          simp only [Bool.and_eq_true, beq_iff_eq] at he2
          rw [← he2.1]; exact h2 e he1 he2.2
        have hp0 : listed.getD X.p false = false := by rw [← e2]; exact hli
        refine k2 e2 (I.pre hp0) (I.bel hq0) (I.sl hp0 hs1) fun v w' hS hb' => hK _ _ ⟨hs', ⟨hun v, hsz v, hdf v, hvals v w' (fun _ h => absurd e2 h), fun h => ?_, fun h => ?_, fun _ _ => ?_, fun h => ?_, fun _ => hb', fun _ => ?_, fun h => ?_, hcl⟩⟩
        · rw [← e2, hLi] at h; cases h
        · rw [← e2, hLi] at h; cases h
        · rw [hown v X.dp (by rw [e2]; exact hdp)]; exact hS
        · rw [hLo _ (by rw [e2]; exact fun e => hpq e.symm), hq0] at h; cases h
        · show (listed.setIfInBounds i true).getD X.s false = true
          rw [hLo _ (fun e => e1 e.symm)]; exact hs1
        · rw [hLo _ (by rw [e2]; exact fun e => hpq e.symm), hq0] at h; cases h
      · by_cases e3 : i = X.q
        · have hall : ∀ j, j < ops.size → j ≠ i → listed.getD j false = true := by
            intro j hj hji
            have h5 := List.all_eq_true.1 hXq j (by simpa using hj)
            rw [Bool.or_eq_true] at h5
            rcases h5 with h5 | h5
            · exact absurd (by rw [e3]; simpa using h5) hji
            · subst e3
              rw [ho] at h5
              obtain ⟨e, he1, he2⟩ := List.any_eq_true.1 (show (o.after.toList.any fun e => Region.binds .any e && (e.on == j || ((ops[e.on]?).map fun o' => o'.after.toList.any fun e' => e'.on == j && Region.binds .any e').getD false)) = true from h5)
              have he1 : e ∈ o.after := Array.mem_toList_iff.1 he1
              rw [Bool.and_eq_true, Bool.or_eq_true] at he2
              have hel := h2 e he1 he2.1
              rcases he2.2 with h6 | h6
              · rw [← beq_iff_eq.1 h6]; exact hel
              · cases ho' : ops[e.on]? with
                | none => rw [ho'] at h6; cases h6
                | some o' =>
                  rw [ho'] at h6
                  obtain ⟨e', he3, he4⟩ := List.any_eq_true.1 (show (o'.after.toList.any fun e' => e'.on == j && Region.binds .any e') = true from h6)
                  have he3 : e' ∈ o'.after := Array.mem_toList_iff.1 he3
                  rw [Bool.and_eq_true, beq_iff_eq] at he4
                  rw [← he4.1]; exact I.cl e.on o' hel ho' e' he3 he4.2
          have hp1 : listed.getD X.p false = true := hall _ hlt3.2.1 (fun e => e2 e.symm)
          refine k3 e3 (I.bel hq0) (I.ap hp1 hq0) fun v w' hS => hK _ _ ⟨hs', ⟨hun v, hsz v, hdf v, hvals v w' (fun _ _ h => absurd e3 h), fun h => ?_, fun h => ?_, fun _ h => ?_, fun _ => hS, fun h => ?_, fun _ => ?_, fun _ j hj => ?_, hcl⟩⟩
          · rw [hLo _ (fun e => e2 e.symm), hp1] at h; cases h
          · rw [hLo _ (fun e => e2 e.symm), hp1] at h; cases h
          · rw [← e3, hLi] at h; cases h
          · rw [← e3, hLi] at h; cases h
          · show (listed.setIfInBounds i true).getD X.s false = true
            rw [hLo _ (fun e => e1 e.symm)]; exact I.ps hp1
          · show (listed.setIfInBounds i true).getD j false = true
            by_cases hji : j = i
            · rw [hji]; exact hLi
            · rw [hLo _ hji]; exact hall j hj hji
        · have o1 : ∀ j, j = X.s ∨ j = X.p ∨ j = X.q → (listed.setIfInBounds i true).getD j false = listed.getD j false := by
            rintro j (rfl | rfl | rfl)
            · exact hLo _ (fun e => e1 e.symm)
            · exact hLo _ (fun e => e2 e.symm)
            · exact hLo _ (fun e => e3 e.symm)
          have n1 := o1 _ (.inl rfl)
          have n2 := o1 _ (.inr (.inl rfl))
          have n3 := o1 _ (.inr (.inr rfl))
          refine k4 e1 e2 e3 (I.bel hq0) fun v hv => hK _ _ ⟨hs', ⟨hun v, hsz v, hdf v, hvals v w (fun _ _ _ => hv), fun h => I.pre (n2 ▸ h), fun h h' => ?_, fun h h' => ?_, fun h => I.en (n3 ▸ h), fun h => I.bel (n3 ▸ h), fun h => n1.trans (I.ps (n2 ▸ h)), fun h => ?_, hcl⟩⟩
          · rw [hother v X.s X.ds (fun e => e1 e.symm) hds]; exact I.sl (n2 ▸ h) (n1 ▸ h')
          · rw [hother v X.p X.dp (fun e => e2 e.symm) hdp]; exact I.ap (n2 ▸ h) (n3 ▸ h')
          · rw [n3, hq0] at h; cases h
  · rintro listed a w ⟨hs, I⟩ hall
    exact hend a w (I.en (hall _ hlt3.2.2)) I.un I.sz I.df
  · unfold left
    rw [Array.toList_replicate]
    exact Nat.le_trans (List.length_filter_le _ _) (by simp)
  · have h0 : ∀ j, (Array.replicate ops.size false).getD j false ≠ true := fun j => by
      rw [Array.getD_eq_getD_getElem?, Array.getElem?_replicate]
      split <;> simp
    exact ⟨by simp, fun _ _ => rfl, rfl, rfl, fun j d hj => absurd hj (h0 j), fun _ => (Below.refl _ _).drew, fun _ h => absurd h (h0 _), fun h => absurd h (h0 _), fun h => absurd h (h0 _), fun _ => hZ, fun h => absurd h (h0 _), fun h => absurd h (h0 _), fun k o hk => absurd hk (h0 k)⟩
theorem gstep_val {F : Nat → Option Value} {X : GWorld} {a0 : Act} {w0 : World} {i : Nat} {o : Oper} (hi : (i == X.s || i == X.p || i == X.q) = false) (hg : o.guard = none)
    (h : ∀ (a : Act) (w : World) (K : Act → World → Prop), X.Z w → Untouched ops a0 a → Came ops (gRel F) o a w → (∀ v, (gRel F i).p v w → K (a.put o.dst v) w) → Oper.wp P o a w K Q) : GStepOk P ops Q F X a0 w0 i o := by
  simp only [Bool.or_eq_false_iff, beq_eq_false_iff_ne] at hi
  intro a w K hu hc
  have hw : Region.wanted o (yielded ops a.tmps) = true := by simp [Region.wanted, hg]
  rw [if_pos hw]
  exact ⟨fun e => absurd e hi.1.1, fun e => absurd e hi.1.2, fun e => absurd e hi.2, fun _ _ _ hb hK => h a w K hb hu hc hK⟩
theorem gstep_s {F : Nat → Option Value} {X : GWorld} {a0 : Act} {w0 : World} {i : Nat} {o : Oper} (hi : i = X.s) (hn : (X.s == X.p || X.s == X.q || X.p == X.q) = false) (hg : o.guard = none)
    (h : ∀ (a : Act) (w : World) (K : Act → World → Prop), Below w0.heap.size w0 w → X.Z w → Untouched ops a0 a → Came ops (gRel F) o a w → (∀ v w', X.S1 v w' → Below w0.heap.size w0 w' → X.Z w' → K (a.put o.dst v) w') → Oper.wp P o a w K Q) : GStepOk P ops Q F X a0 w0 i o := by
  simp only [Bool.or_eq_false_iff, beq_eq_false_iff_ne] at hn
  intro a w K hu hc
  have hw : Region.wanted o (yielded ops a.tmps) = true := by simp [Region.wanted, hg]
  rw [if_pos hw]
  exact ⟨fun _ hb hz hK => h a w K hb hz hu hc hK, fun e => absurd (hi.symm.trans e) hn.1.1, fun e => absurd (hi.symm.trans e) hn.1.2, fun e => absurd hi e⟩
theorem gstep_p {F : Nat → Option Value} {X : GWorld} {a0 : Act} {w0 : World} {i : Nat} {o : Oper} (hi : i = X.p) (hn : (X.s == X.p || X.s == X.q || X.p == X.q) = false) (hg : o.guard = none)
    (h : ∀ (a : Act) (w : World) (K : Act → World → Prop), Below w0.heap.size w0 w → X.Z w → Untouched ops a0 a → Came ops (gRel F) o a w → X.S1 (a.tmps[X.ds]?.getD undef) w → (∀ v w', X.S2 v w' → X.Z w' → K (a.put o.dst v) w') → Oper.wp P o a w K Q) : GStepOk P ops Q F X a0 w0 i o := by
  simp only [Bool.or_eq_false_iff, beq_eq_false_iff_ne] at hn
  intro a w K hu hc
  have hw : Region.wanted o (yielded ops a.tmps) = true := by simp [Region.wanted, hg]
  rw [if_pos hw]
  exact ⟨fun e => absurd (e.symm.trans hi) hn.1.1, fun _ hb hz hS hK => h a w K hb hz hu hc hS hK, fun e => absurd (hi.symm.trans e) hn.2, fun _ e => absurd hi e⟩
theorem gstep_q {F : Nat → Option Value} {X : GWorld} {a0 : Act} {w0 : World} {i : Nat} {o : Oper} (hi : i = X.q) (hn : (X.s == X.p || X.s == X.q || X.p == X.q) = false) (hg : o.guard = none)
    (h : ∀ (a : Act) (w : World) (K : Act → World → Prop), X.Z w → Untouched ops a0 a → Came ops (gRel F) o a w → X.S2 (a.tmps[X.dp]?.getD undef) w → (∀ v w', X.S3 w' → K (a.put o.dst v) w') → Oper.wp P o a w K Q) : GStepOk P ops Q F X a0 w0 i o := by
  simp only [Bool.or_eq_false_iff, beq_eq_false_iff_ne] at hn
  intro a w K hu hc
  have hw : Region.wanted o (yielded ops a.tmps) = true := by simp [Region.wanted, hg]
  rw [if_pos hw]
  exact ⟨fun e => absurd (e.symm.trans hi) hn.1.2, fun e => absurd (e.symm.trans hi) hn.2, fun _ hb hS hK => h a w K hb hu hc hS hK, fun _ _ e => absurd hi e⟩
end
end Go.Proofs.Ytjihklaocgmlpaa
