/- A region that draws its order, whose operations yield plain values, lay fresh blocks, or write the fresh blocks they laid: one proof an operation, no branching over orders. No program is named here. -/
import Derived.Test.YtdlmamnnamlleaaDoorCalm
namespace Go.Proofs.YtdlmamnnamlleaaDoor
open Go Go.RowKit

section
variable {P : Program} {ops : Array Oper} {Q : Exit → Act → World → Prop}

/-- What is told of the operations: the plain value of one, the cells of one that lays a block, the layer whose block one writes, and what it writes. -/
structure FSpec where
  val : Nat → Option Value
  al : Nat → Option Nat
  tg : Nat → Option Nat
  row : Nat → Array Value
def FSpec.rel (F : FSpec) (i : Nat) : SRel := match F.val i with | some c => SRel.is c | none => SRel.any
/-- One that lays a block. -/
def AllocOk (P : Program) (Q : Exit → Act → World → Prop) (ops : Array Oper) (n : Nat) (o : Oper) : Prop :=
  ∀ (a : Act) (w : World) (K : Act → World → Prop), (∀ c t, Cells c n → K (a.put o.dst (.pointer (some ⟨w.heap.size, 0, none⟩))) (w.alloc (.cells c t))) →
    if Region.wanted o (yielded ops a.tmps) = true then Oper.wp P o a w K Q else K (a.put o.dst undef) w
/-- One that writes a block. -/
def WriteOk (P : Program) (Q : Exit → Act → World → Prop) (ops : Array Oper) (F : FSpec) (a0 : Act) (w0 : World) (j n : Nat) (c : Array Value) (o : Oper) : Prop :=
  o.dst = none ∧ (o.after.toList.any fun e => e.on == j && Region.binds .any e) = true ∧ c.size = n ∧
  ∀ (a : Act) (w : World) (K : Act → World → Prop) (g : Nat), Below w0.heap.size w0 w → Untouched ops a0 a → Came ops F.rel o a w → (∀ d, dstAt ops j = some d → a.tmps[d]?.getD undef = .pointer (some ⟨g, 0, none⟩)) → Row w g n → (∀ v, K (a.put none v) (w.setRow g c)) →
    if Region.wanted o (yielded ops a.tmps) = true then Oper.wp P o a w K Q else K (a.put o.dst undef) w
def FStepOk (P : Program) (ops : Array Oper) (Q : Exit → Act → World → Prop) (F : FSpec) (a0 : Act) (w0 : World) (i : Nat) (o : Oper) : Prop :=
  match F.al i, F.tg i with
  | some n, _ => AllocOk P Q ops n o
  | none, some j => ∃ n, F.al j = some n ∧ WriteOk P Q ops F a0 w0 j n (F.row i) o
  | none, none => StepOk P ops Q F.rel a0 w0 i o
def FStepsOk (P : Program) (ops : Array Oper) (Q : Exit → Act → World → Prop) (F : FSpec) (a0 : Act) (w0 : World) : Nat → List Oper → Prop
  | _, [] => True
  | i, o :: l => FStepOk P ops Q F a0 w0 i o ∧ FStepsOk P ops Q F a0 w0 (i + 1) l
theorem fsteps_at {F : FSpec} {a0 : Act} {w0 : World} : ∀ (l : List Oper) (n i : Nat) (o : Oper), FStepsOk P ops Q F a0 w0 n l → l[i]? = some o → FStepOk P ops Q F a0 w0 (n + i) o
  | [], n, i, o, _, h => by simp at h
  | x :: l, n, 0, o, h1, h => by
      have : x = o := by simpa using h
      subst this
      exact h1.1
  | x :: l, n, i + 1, o, h1, h => by
      have := fsteps_at l (n + 1) i o h1.2 (by simpa using h)
      rw [show n + (i + 1) = n + 1 + i by omega]
      exact this
/-- No operation is told of twice; no block is written twice. -/
def FSpec.ok (F : FSpec) (n : Nat) : Bool := (List.range n).all fun i => (List.range n).all fun j => (i == j || (F.tg i).isNone || F.tg i != F.tg j) && ((F.al i).isNone || ((F.tg i).isNone && (F.val i).isNone))
/-- What stands while the region runs. -/
structure FInv (ops : Array Oper) (F : FSpec) (a0 : Act) (w0 : World) (G : Nat → Nat) (L : Nat → Bool) (a : Act) (w : World) : Prop where
  bel : Below w0.heap.size w0 w
  un : Untouched ops a0 a
  sz : a.tmps.size = a0.tmps.size
  df : a.defers = a0.defers
  val : ∀ j d, L j = true → dstAt ops j = some d → (F.rel j).p (a.tmps[d]?.getD undef) w
  al : ∀ j d n, L j = true → dstAt ops j = some d → F.al j = some n → a.tmps[d]?.getD undef = .pointer (some ⟨G j, 0, none⟩)
  blk : ∀ j n, L j = true → F.al j = some n → w0.heap.size ≤ G j ∧ Row w (G j) n
  ne : ∀ i j n m, L i = true → L j = true → F.al i = some n → F.al j = some m → i ≠ j → G i ≠ G j
  row : ∀ k j, L k = true → F.tg k = some j → L j = true ∧ (∃ n, F.al j = some n) ∧ rowAt w (G j) = F.row k
theorem rel_any {F : FSpec} {i : Nat} {v : Value} {w w' : World} (h : (F.rel i).p v w) : (F.rel i).p v w' := by
  unfold FSpec.rel at *
  cases h1 : F.val i with
  | none => trivial
  | some c => rw [h1] at h; exact h
theorem wp_region_fresh {id : Nat} {a0 : Act} {w0 : World} (F : FSpec) (hm : P.follows .mixedOrders = true) (he : edgesOk ops = true) (hd : dstsOk ops = true) (hz : slotsOk ops a0.tmps.size = true) (hF : F.ok ops.size = true)
    (hstep : FStepsOk P ops Q F a0 w0 0 ops.toList)
    (hend : ∀ (a : Act) (w : World) (G : Nat → Nat), FInv ops F a0 w0 G (fun i => decide (i < ops.size)) a w → Q .normal a w) :
    (Code.region id ops true).wp P Q a0 w0 := by
  refine wp_region_any hm ?_
  have hlt : ∀ i d, dstAt ops i = some d → i < ops.size := fun i d h => by
    unfold dstAt at h
    rcases Nat.lt_or_ge i ops.size with h1 | h1
    · exact h1
    · rw [Array.getElem?_eq_none h1] at h; cases h
  have hdst : ∀ i j d e, i ≠ j → dstAt ops i = some d → dstAt ops j = some e → d ≠ e := by
    intro i j d e hij h1 h2
    have := List.all_eq_true.1 (List.all_eq_true.1 hd i (by simpa using hlt i d h1)) j (by simpa using hlt j e h2)
    rw [h1, h2] at this
    simpa [hij] using this
  have hslot : ∀ i d, dstAt ops i = some d → d < a0.tmps.size := by
    intro i d h1
    have := List.all_eq_true.1 hz i (by simpa using hlt i d h1)
    rw [h1] at this
    simpa using this
  refine wpAny_inv he (fun listed a w => listed.size = ops.size ∧ ∃ G, FInv ops F a0 w0 G (fun i => listed.getD i false) a w) ?_ ?_ _ _ _ _ (by simp) ?_ ?_
  · rintro listed a w i o hs ⟨-, G, I⟩ hi h1 ho h2
    have hs' : (listed.setIfInBounds i true).size = ops.size := by simpa using hs
    have hst := fsteps_at ops.toList 0 i o hstep (by rw [Array.getElem?_toList]; exact ho)
    rw [Nat.zero_add] at hst
    have hil : i < listed.size := by omega
    have hli : listed.getD i false = false := by simpa [hil] using h1
    have hL : ∀ j, (listed.setIfInBounds i true).getD j false = true → j = i ∨ listed.getD j false = true := by
      intro j hj
      by_cases hij : i = j
      · exact .inl hij.symm
      · exact .inr (by simpa [Array.getElem?_setIfInBounds_ne hij] using hj)
    have hLm : ∀ j, listed.getD j false = true → (listed.setIfInBounds i true).getD j false = true := by
      intro j hj
      by_cases hij : i = j
      · subst hij; simp [hil]
      · simpa [Array.getElem?_setIfInBounds_ne hij] using hj
    have hun : ∀ v, Untouched ops a0 (a.put o.dst v) := by
      intro v s hs'
      have hns : o.dst ≠ some s := by
        have := List.all_eq_true.1 hs' o (Array.mem_toList_iff.2 (Array.mem_of_getElem? ho))
        simpa using this
      rw [← I.un s hs']
      cases hd' : o.dst with
      | none => rfl
      | some d =>
        have hne : d ≠ s := fun e => hns (by rw [hd', e])
        simp [Act.put, Array.getElem?_setIfInBounds_ne hne]
    have hsz : ∀ v, (a.put o.dst v).tmps.size = a0.tmps.size := fun v => by cases hd' : o.dst <;> simp [Act.put, I.sz]
    have hdf : ∀ v, (a.put o.dst v).defers = a0.defers := fun v => by cases hd' : o.dst <;> simp [Act.put, I.df]
    have hother : ∀ v j d, listed.getD j false = true → dstAt ops j = some d → (a.put o.dst v).tmps[d]?.getD undef = a.tmps[d]?.getD undef := by
      intro v j d hj hjd
      have hij : i ≠ j := fun e => by rw [e, hj] at hli; cases hli
      cases hd' : o.dst with
      | none => rfl
      | some d' =>
        have hne : d' ≠ d := hdst i j d' d hij (by unfold dstAt; rw [ho]; exact hd') hjd
        simp [Act.put, Array.getElem?_setIfInBounds_ne hne]
    have hown : ∀ v d, dstAt ops i = some d → (a.put o.dst v).tmps[d]?.getD undef = v := by
      intro v d hid
      have hd1 := hslot i d hid
      have hod : o.dst = some d := by unfold dstAt at hid; rw [ho] at hid; exact hid
      rw [hod]
      rw [← I.sz] at hd1
      simp [Act.put, hd1]
    have hcame : Came ops F.rel o a w := by
      intro j d hj hjd
      obtain ⟨e, he1, he2⟩ := List.any_eq_true.1 hj
      have he1 : e ∈ o.after := Array.mem_toList_iff.1 he1
      simp only [Bool.and_eq_true, beq_iff_eq] at he2
      have hjl : listed.getD j false = true := by rw [← he2.1]; exact h2 e he1 he2.2
      exact I.val j d hjl hjd
    have htg : ∀ k k' j, k < ops.size → k' < ops.size → F.tg k = some j → F.tg k' = some j → k = k' := by
      intro k k' j hk hk' h3 h4
      have := List.all_eq_true.1 (List.all_eq_true.1 hF k (by simpa using hk)) k' (by simpa using hk')
      rw [h3, h4, Bool.and_eq_true] at this
      simpa using this.1
    have hal0 : ∀ n, F.al i = some n → F.tg i = none ∧ F.val i = none := by
      intro n h3
      have := List.all_eq_true.1 (List.all_eq_true.1 hF i (by simpa using hi)) i (by simpa using hi)
      rw [h3] at this
      simpa using this
    have hLs : ∀ j, listed.getD j false = true → j < ops.size := by
      intro j hj
      rcases Nat.lt_or_ge j ops.size with h | h
      · exact h
      · rw [Array.getD_eq_getD_getElem?, Array.getElem?_eq_none (by omega)] at hj; cases hj
    unfold FStepOk at hst
    cases hal : F.al i with
    | some n =>
      rw [hal] at hst
      refine wpOp_step ho fun K hK => hst a w K fun c t hc => hK _ _ ⟨hs', fun j => if j = i then w.heap.size else G j, ?_⟩
      have hG : ∀ j, listed.getD j false = true → (if j = i then w.heap.size else G j) = G j := fun j hj => if_neg fun e => by rw [e, hli] at hj; cases hj
      refine ⟨I.bel.alloc I.bel.size _, hun _, hsz _, hdf _, ?_, ?_, ?_, ?_, ?_⟩
      · intro j d hj hjd
        rcases hL j hj with rfl | hj
        · unfold FSpec.rel; rw [(hal0 n hal).2]; trivial
        · rw [hother _ j d hj hjd]; exact rel_any (I.val j d hj hjd)
      · intro j d m hj hjd hm
        rcases hL j hj with rfl | hj
        · rw [hown _ d hjd, if_pos rfl]
        · rw [hother _ j d hj hjd, hG j hj]; exact I.al j d m hj hjd hm
      · intro j m hj hm
        rcases hL j hj with rfl | hj
        · rw [if_pos rfl]
          rw [hal] at hm
          cases hm
          exact ⟨I.bel.size, (row_new_cells rfl hc).2 trivial⟩
        · rw [hG j hj]
          have := I.blk j m hj hm
          exact ⟨this.1, (row_old this.2.lt).2 this.2⟩
      · intro j k m m' hj hk hm hm' hjk
        rcases hL j hj with rfl | hj'
        · rcases hL k hk with rfl | hk'
          · exact absurd rfl hjk
          · rw [if_pos rfl, hG k hk']
            have := (I.blk k m' hk' hm').2.lt
            omega
        · rcases hL k hk with rfl | hk'
          · rw [if_pos rfl, hG j hj']
            have := (I.blk j m hj' hm).2.lt
            omega
          · rw [hG j hj', hG k hk']; exact I.ne j k m m' hj' hk' hm hm' hjk
      · intro k j hk hkj
        rcases hL k hk with rfl | hk'
        · rw [(hal0 n hal).1] at hkj; cases hkj
        · obtain ⟨h3, ⟨n', h4⟩, h5⟩ := I.row k j hk' hkj
          refine ⟨hLm j h3, ⟨n', h4⟩, ?_⟩
          rw [hG j h3, rowAt_old (I.blk j n' h3 h4).2.lt]
          exact h5
    | none =>
      rw [hal] at hst
      cases htgi : F.tg i with
      | some j =>
        rw [htgi] at hst
        obtain ⟨n, hjn, hod, haf, hcs, hw⟩ := hst
        obtain ⟨e, he1, he2⟩ := List.any_eq_true.1 haf
        have he1 : e ∈ o.after := Array.mem_toList_iff.1 he1
        simp only [Bool.and_eq_true, beq_iff_eq] at he2
        have hjl : listed.getD j false = true := by rw [← he2.1]; exact h2 e he1 he2.2
        have hB := I.blk j n hjl hjn
        have hid : ∀ d, dstAt ops i ≠ some d := fun d h => by unfold dstAt at h; rw [ho] at h; exact absurd (hod.symm.trans h) (by simp)
        refine wpOp_step ho fun K hK => hw a w K (G j) I.bel I.un hcame (fun d hd => I.al j d n hjl hd hjn) hB.2 fun v => hod ▸ hK _ _ ⟨hs', G, ?_⟩
        refine ⟨below_setRow I.bel hB.1, hun _, hsz _, hdf _, ?_, ?_, ?_, ?_, ?_⟩
        · intro k d hk hkd
          rcases hL k hk with rfl | hk'
          · exact absurd hkd (hid d)
          · rw [hother _ k d hk' hkd]; exact rel_any (I.val k d hk' hkd)
        · intro k d m hk hkd hm
          rcases hL k hk with rfl | hk'
          · exact absurd hkd (hid d)
          · rw [hother _ k d hk' hkd]; exact I.al k d m hk' hkd hm
        · intro k m hk hm
          rcases hL k hk with rfl | hk'
          · rw [hal] at hm; cases hm
          · have h3 := I.blk k m hk' hm
            refine ⟨h3.1, ?_⟩
            by_cases hjk : k = j
            · subst hjk
              rw [hjn] at hm
              cases hm
              exact (row_setRow_same rfl h3.2).2 hcs
            · exact (row_setRow_far (I.ne k j m n hk' hjl hm hjn hjk)).2 h3.2
        · intro k l m m' hk hl hm hm' hkl
          rcases hL k hk with rfl | hk'
          · rw [hal] at hm; cases hm
          · rcases hL l hl with rfl | hl'
            · rw [hal] at hm'; cases hm'
            · exact I.ne k l m m' hk' hl' hm hm' hkl
        · intro k l hk hkl
          rcases hL k hk with rfl | hk'
          · rw [htgi] at hkl
            cases hkl
            exact ⟨hLm j hjl, ⟨n, hjn⟩, rowAt_setRow_same hB.2⟩
          · obtain ⟨h3, ⟨n', h4⟩, h5⟩ := I.row k l hk' hkl
            refine ⟨hLm l h3, ⟨n', h4⟩, ?_⟩
            have hlj : l ≠ j := fun e => by
              subst e
              have := htg k i l (hLs k hk') hi hkl htgi
              rw [this, hli] at hk'
              cases hk'
            rw [rowAt_setRow_far (I.ne l j n' n h3 hjl h4 hjn hlj)]
            exact h5
      | none =>
        rw [htgi] at hst
        refine wpOp_step ho fun K hK => hst a w K I.bel I.un hcame fun v w' hv hb' => hK _ _ ⟨hs', G, ?_⟩
        refine ⟨below_step hb' I.bel (Nat.le_refl _), hun _, hsz _, hdf _, ?_, ?_, ?_, ?_, ?_⟩
        · intro k d hk hkd
          rcases hL k hk with rfl | hk'
          · rw [hown _ d hkd]; exact hv
          · rw [hother _ k d hk' hkd]; exact rel_any (I.val k d hk' hkd)
        · intro k d m hk hkd hm
          rcases hL k hk with rfl | hk'
          · rw [hal] at hm; cases hm
          · rw [hother _ k d hk' hkd]; exact I.al k d m hk' hkd hm
        · intro k m hk hm
          rcases hL k hk with rfl | hk'
          · rw [hal] at hm; cases hm
          · have h3 := I.blk k m hk' hm
            exact ⟨h3.1, row_below h3.2 hb' h3.2.lt⟩
        · intro k l m m' hk hl hm hm' hkl
          rcases hL k hk with rfl | hk'
          · rw [hal] at hm; cases hm
          · rcases hL l hl with rfl | hl'
            · rw [hal] at hm'; cases hm'
            · exact I.ne k l m m' hk' hl' hm hm' hkl
        · intro k l hk hkl
          rcases hL k hk with rfl | hk'
          · rw [htgi] at hkl; cases hkl
          · obtain ⟨h3, ⟨n', h4⟩, h5⟩ := I.row k l hk' hkl
            exact ⟨hLm l h3, ⟨n', h4⟩, (rowAt_below hb' (I.blk l n' h3 h4).2.lt).trans h5⟩
  · rintro listed a w ⟨hs, G, I⟩ hall
    have hLs : ∀ j, decide (j < ops.size) = true → listed.getD j false = true := fun j hj => hall j (by simpa using hj)
    refine hend a w G ⟨I.bel, I.un, I.sz, I.df, fun j d hj => I.val j d (hLs j hj), fun j d n hj => I.al j d n (hLs j hj), fun j n hj => I.blk j n (hLs j hj), fun i j n m hi hj => I.ne i j n m (hLs i hi) (hLs j hj), fun k j hk hkj => ?_⟩
    have hks := I.row k j (hLs k hk) hkj
    refine ⟨?_, hks.2⟩
    have h3 := hks.1
    rcases Nat.lt_or_ge j ops.size with h | h
    · simpa using h
    · rw [Array.getD_eq_getD_getElem?, Array.getElem?_eq_none (by omega)] at h3; cases h3
  · unfold left
    rw [Array.toList_replicate]
    exact Nat.le_trans (List.length_filter_le _ _) (by simp)
  · have h0 : ∀ j, (Array.replicate ops.size false).getD j false ≠ true := fun j => by
      rw [Array.getD_eq_getD_getElem?, Array.getElem?_replicate]
      split <;> simp
    exact ⟨by simp, fun _ => 0, (Below.refl _ _).drew, fun _ _ => rfl, rfl, rfl, fun j d hj => absurd hj (h0 j), fun j d n hj => absurd hj (h0 j), fun j n hj => absurd hj (h0 j), fun i j n m hi => absurd hi (h0 i), fun k j hk => absurd hk (h0 k)⟩
theorem fstep_val {F : FSpec} {a0 : Act} {w0 : World} {i : Nat} {o : Oper} (h1 : F.al i = none) (h2 : F.tg i = none) (h : StepOk P ops Q F.rel a0 w0 i o) : FStepOk P ops Q F a0 w0 i o := by
  unfold FStepOk
  rw [h1, h2]
  exact h
theorem fstep_al {F : FSpec} {a0 : Act} {w0 : World} {i n : Nat} {o : Oper} (h1 : F.al i = some n) (hg : o.guard = none)
    (h : ∀ (a : Act) (w : World) (K : Act → World → Prop), (∀ c t, Cells c n → K (a.put o.dst (.pointer (some ⟨w.heap.size, 0, none⟩))) (w.alloc (.cells c t))) → Oper.wp P o a w K Q) : FStepOk P ops Q F a0 w0 i o := by
  unfold FStepOk
  rw [h1]
  intro a w K hK
  rw [if_pos (by simp [Region.wanted, hg])]
  exact h a w K hK
theorem fstep_st {F : FSpec} {a0 : Act} {w0 : World} {i j n : Nat} {d : Tmp} {o : Oper} (h1 : F.al i = none) (h2 : F.tg i = some j) (h3 : F.al j = some n) (hod : o.dst = none) (haf : (o.after.toList.any fun e => e.on == j && Region.binds .any e) = true) (hcs : (F.row i).size = n) (hg : o.guard = none) (hdj : dstAt ops j = some d)
    (h : ∀ (a : Act) (w : World) (K : Act → World → Prop) (g : Nat), Below w0.heap.size w0 w → Untouched ops a0 a → Came ops F.rel o a w → a.tmps[d]?.getD undef = .pointer (some ⟨g, 0, none⟩) → Row w g n → (∀ v, K (a.put none v) (w.setRow g (F.row i))) → Oper.wp P o a w K Q) : FStepOk P ops Q F a0 w0 i o := by
  unfold FStepOk
  rw [h1, h2]
  refine ⟨n, h3, hod, haf, hcs, fun a w K g hb hu hc hp hr hK => ?_⟩
  rw [if_pos (by simp [Region.wanted, hg])]
  exact h a w K g hb hu hc (hp d hdj) hr hK
end
end Go.Proofs.YtdlmamnnamlleaaDoor
