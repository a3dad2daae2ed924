/- A region that draws its order, each of whose operations yields what is said of it whatever came before, and leaves what was there as it was: one proof an operation, no branching over orders. No program is named here. -/
import Derived.Test.YtakooljbkjnilaaMem2
import Derived.Deep.RegionHeld
namespace Go.Proofs.Ytakooljbkjnilaa
open Go Go.RowKit

/-- What is said of an operation's value, and that it stays so while memory grows. -/
structure SRel where
  p : Value → World → Prop
  st : ∀ v V V', Below V.heap.size V V' → p v V → p v V'
def SRel.is (c : Value) : SRel := ⟨fun v _ => v = c, fun _ _ _ _ h => h⟩
def SRel.any : SRel := ⟨fun _ _ => True, fun _ _ _ _ h => h⟩

section
variable {P : Program} {ops : Array Oper} {Q : Exit → Act → World → Prop}

def dstAt (ops : Array Oper) (j : Nat) : Option Tmp := (ops[j]?).bind fun o => o.dst
/-- The slots that no operation writes read as at first. -/
def Untouched (ops : Array Oper) (a0 a : Act) : Prop := ∀ s, (ops.toList.all fun o => o.dst != some s) = true → a.tmps[s]?.getD undef = a0.tmps[s]?.getD undef
/-- What an operation waits for has come. -/
def Came (ops : Array Oper) (R : Nat → SRel) (o : Oper) (a : Act) (w : World) : Prop :=
  ∀ j d, (o.after.toList.any fun e => e.on == j && Region.binds .any e) = true → dstAt ops j = some d → (R j).p (a.tmps[d]?.getD undef) w
def StepOk (P : Program) (ops : Array Oper) (Q : Exit → Act → World → Prop) (R : Nat → SRel) (a0 : Act) (w0 : World) (i : Nat) (o : Oper) : Prop :=
  ∀ (a : Act) (w : World) (K : Act → World → Prop), Below w0.heap.size w0 w → Untouched ops a0 a → Came ops R o a w →
    (∀ v w', (R i).p v w' → Below w.heap.size w w' → K (a.put o.dst v) w') → if Region.wanted o (yielded ops a.tmps) = true then Oper.wp P o a w K Q else K (a.put o.dst undef) w
def StepsOk (P : Program) (ops : Array Oper) (Q : Exit → Act → World → Prop) (R : Nat → SRel) (a0 : Act) (w0 : World) : Nat → List Oper → Prop
  | _, [] => True
  | i, o :: l => StepOk P ops Q R a0 w0 i o ∧ StepsOk P ops Q R a0 w0 (i + 1) l
theorem steps_at {R : Nat → SRel} {a0 : Act} {w0 : World} : ∀ (l : List Oper) (n i : Nat) (o : Oper), StepsOk P ops Q R a0 w0 n l → l[i]? = some o → StepOk P ops Q R a0 w0 (n + i) o
  | [], n, i, o, _, h => by simp at h
  | x :: l, n, 0, o, h1, h => by
      have : x = o := by simpa using h
      subst this
      exact h1.1
  | x :: l, n, i + 1, o, h1, h => by
      have := steps_at l (n + 1) i o h1.2 (by simpa using h)
      rw [show n + (i + 1) = n + 1 + i by omega]
      exact this
/-- No two operations write one slot; all slots are there. -/
def dstsOk (ops : Array Oper) : Bool := (List.range ops.size).all fun i => (List.range ops.size).all fun j => i == j || match dstAt ops i, dstAt ops j with | some d, some e => d != e | _, _ => true
def slotsOk (ops : Array Oper) (n : Nat) : Bool := (List.range ops.size).all fun i => match dstAt ops i with | some d => decide (d < n) | none => true
theorem slotsOk_of {a : Act} {n : Nat} (h : a.tmps.size = n) (h2 : slotsOk ops n = true) : slotsOk ops a.tmps.size = true := by rw [h]; exact h2
def edgesOk (ops : Array Oper) : Bool := (List.range ops.size).all fun i => match ops[i]? with | some o => o.after.all fun e => !Region.binds .any e || decide (e.on < i) | none => true

theorem edges_of {i : Nat} {o : Oper} (h : edgesOk ops = true) (ho : ops[i]? = some o) : ∀ e ∈ o.after, Region.binds .any e = true → e.on < i := by
  have hi : i < ops.size := (Array.getElem?_eq_some_iff.1 ho).1
  have := List.all_eq_true.1 h i (by simpa using hi)
  rw [ho] at this
  intro e he hbi
  have := Array.all_eq_true_iff_forall_mem.1 this e he
  rw [hbi] at this
  simpa using this
theorem all_of_ready_nil {listed : Array Bool} (he : edgesOk ops = true) (hs : listed.size = ops.size) (hr : Region.ready .any ops listed = []) : ∀ i, i < ops.size → listed.getD i false = true := by
  intro i
  induction i using Nat.strongRecOn with
  | _ i ih =>
    intro hi
    by_cases h : listed.getD i false = true
    · exact h
    · have hm : i ∈ Region.ready .any ops listed := by
        refine mem_ready.2 ⟨?_, ops[i], Array.getElem?_eq_getElem hi, fun e h1 h2 => ih _ (edges_of he (Array.getElem?_eq_getElem hi) e h1 h2) (Nat.lt_trans (edges_of he (Array.getElem?_eq_getElem hi) e h1 h2) hi)⟩
        have hl : i < listed.size := by omega
        simp [hl] at h ⊢
        exact h
      rw [hr] at hm
      cases hm
/-- How many have not come up. -/
def left (listed : Array Bool) : Nat := (listed.toList.filter fun b => !b).length
theorem left_set : ∀ (l : List Bool) (i : Nat), l[i]? = some false → ((l.set i true).filter fun b => !b).length + 1 = (l.filter fun b => !b).length
  | [], i, h => by simp at h
  | b :: l, 0, h => by
      have : b = false := by simpa using h
      subst this
      simp
  | b :: l, i + 1, h => by
      have := left_set l i (by simpa using h)
      cases b <;> simp <;> omega
theorem wpAny_inv (he : edgesOk ops = true) (I : Array Bool → Act → World → Prop)
    (hstep : ∀ listed a w i o, listed.size = ops.size → I listed a w → i < ops.size → listed.getD i true = false → ops[i]? = some o → (∀ e ∈ o.after, Region.binds .any e = true → listed.getD e.on false = true) → wpOp P ops Q i (fun a' w' => I (listed.setIfInBounds i true) a' w') a w)
    (hend : ∀ listed a w, I listed a w → (∀ i, i < ops.size → listed.getD i false = true) → Q .normal a w) :
    ∀ (fuel : Nat) (listed : Array Bool) (a : Act) (w : World), listed.size = ops.size → left listed ≤ fuel → I listed a w → wpAny P .any ops Q fuel listed a w
  | 0, listed, a, w, hs, hl, h => by
      have hall : ∀ i, i < ops.size → listed.getD i false = true := fun i hi => by
        have hil : i < listed.size := by omega
        cases hb : listed[i] with
        | true => simp [hil, hb]
        | false =>
          exfalso
          have : (false : Bool) ∈ listed.toList.filter fun b => !b := List.mem_filter.2 ⟨by rw [← hb]; simp, rfl⟩
          have h0 : (listed.toList.filter fun b => !b) = [] := List.eq_nil_of_length_eq_zero (by unfold left at hl; omega)
          rw [h0] at this
          cases this
      refine ⟨?_, hend _ _ _ h hall⟩
      rw [List.eq_nil_iff_forall_not_mem]
      intro i hi
      obtain ⟨h1, o, ho, -⟩ := mem_ready.1 hi
      have hi : i < ops.size := (Array.getElem?_eq_some_iff.1 ho).1
      have hil : i < listed.size := by omega
      have := hall i hi
      simp [hil] at h1 this
      rw [h1] at this
      cases this
  | fuel + 1, listed, a, w, hs, hl, h => by
      refine ⟨fun h0 => hend _ _ _ h (all_of_ready_nil he hs h0), fun i hi => ?_⟩
      obtain ⟨h1, o, ho, h2⟩ := mem_ready.1 hi
      have hi : i < ops.size := (Array.getElem?_eq_some_iff.1 ho).1
      refine wpOp_mono (fun a' w' h' => wpAny_inv he I hstep hend fuel _ a' w' (by simpa using hs) ?_ h') (hstep listed a w i o hs h hi h1 ho h2)
      have hil : i < listed.size := by omega
      have h3 := left_set listed.toList i (by
        simp [hil] at h1
        simp [hil, h1])
      unfold left at hl ⊢
      rw [Array.toList_setIfInBounds]
      omega

theorem wp_region_calm {id : Nat} {a0 : Act} {w0 : World} (R : Nat → SRel) (hm : P.follows .mixedOrders = true) (he : edgesOk ops = true) (hd : dstsOk ops = true) (hz : slotsOk ops a0.tmps.size = true)
    (hstep : StepsOk P ops Q R a0 w0 0 ops.toList)
    (hend : ∀ (a : Act) (w : World), Below w0.heap.size w0 w → Untouched ops a0 a → a.tmps.size = a0.tmps.size → a.defers = a0.defers → (∀ j d, dstAt ops j = some d → (R j).p (a.tmps[d]?.getD undef) w) → Q .normal a w) :
    (Code.region id ops true).wp P Q a0 w0 := by
  refine wp_region_any hm ?_
  have hlt : ∀ i d, dstAt ops i = some d → i < ops.size := fun i d h => by
    unfold dstAt at h
    rcases Nat.lt_or_ge i ops.size with h1 | h1
    · exact h1
    · rw [Array.getElem?_eq_none h1] at h; cases h
  have hdst : ∀ i j d e, i ≠ j → dstAt ops i = some d → dstAt ops j = some e → d ≠ e := by
    intro i j d e hij h1 h2
    have := List.all_eq_true.1 (List.all_eq_true.1 hd i (by simpa using hlt i d h1)) j (by simpa using hlt j e h2)
    rw [h1, h2] at this
    simpa [hij] using this
  have hslot : ∀ i d, dstAt ops i = some d → d < a0.tmps.size := by
    intro i d h1
    have := List.all_eq_true.1 hz i (by simpa using hlt i d h1)
    rw [h1] at this
    simpa using this
  refine wpAny_inv he (fun listed a w => Below w0.drew.heap.size w0.drew w ∧ Untouched ops a0 a ∧ a.tmps.size = a0.tmps.size ∧ a.defers = a0.defers ∧ ∀ j d, listed.getD j false = true → dstAt ops j = some d → (R j).p (a.tmps[d]?.getD undef) w) ?_ ?_ _ _ _ _ (by simp) ?_ ?_
  · rintro listed a w i o hs ⟨hb, hu, hsz, hdf, hR⟩ hi h1 ho h2
    have hst := steps_at ops.toList 0 i o hstep (by rw [Array.getElem?_toList]; exact ho)
    rw [Nat.zero_add] at hst
    refine wpOp_step ho fun K hK => hst a w K (below_step hb (Below.refl _ _).drew (Nat.le_refl _)) hu (fun j d hj hd => ?_) fun v w' hv hb' => hK _ _ ⟨below_step hb' hb (Nat.le_refl _), ?_, ?_, ?_, ?_⟩
    · obtain ⟨e, he1, he2⟩ := List.any_eq_true.1 hj
      have he1 : e ∈ o.after := Array.mem_toList_iff.1 he1
      simp only [Bool.and_eq_true, beq_iff_eq] at he2
      refine hR j d ?_ hd
      rw [← he2.1]
      exact h2 e he1 he2.2
    · intro s hs'
      have hns : o.dst ≠ some s := by
        have := List.all_eq_true.1 hs' o (Array.mem_toList_iff.2 (Array.mem_of_getElem? ho))
        simpa using this
      rw [← hu s hs']
      cases hd' : o.dst with
      | none => rfl
      | some d =>
        have hne : d ≠ s := fun e => hns (by rw [hd', e])
        simp [Act.put, Array.getElem?_setIfInBounds_ne hne]
    · cases hd' : o.dst <;> simp [Act.put, hsz]
    · cases hd' : o.dst <;> simp [Act.put, hdf]
    · intro j d hj hjd
      by_cases hij : i = j
      · subst hij
        have hd1 := hslot i d hjd
        have hod : o.dst = some d := by unfold dstAt at hjd; rw [ho] at hjd; exact hjd
        rw [hod]
        rw [← hsz] at hd1
        simp [Act.put, hd1]
        exact hv
      · have hlj : listed.getD j false = true := by
          simpa [Array.getElem?_setIfInBounds_ne hij] using hj
        have h3 := (R j).st _ _ _ hb' (hR j d hlj hjd)
        cases hd' : o.dst with
        | none => simpa [Act.put] using h3
        | some d' =>
          have hne : d' ≠ d := hdst i j d' d hij (by unfold dstAt; rw [ho]; exact hd') hjd
          simpa [Act.put, Array.getElem?_setIfInBounds_ne hne] using h3
  · rintro listed a w ⟨hb, hu, hsz, hdf, hR⟩ hall
    exact hend a w (below_step hb (Below.refl _ _).drew (Nat.le_refl _)) hu hsz hdf fun j d hj => hR j d (hall j (hlt j d hj)) hj
  · unfold left
    rw [Array.toList_replicate]
    exact Nat.le_trans (List.length_filter_le _ _) (by simp)
  · exact ⟨Below.refl _ _, fun _ _ => rfl, rfl, rfl, fun j d hj => absurd hj (by
      rw [Array.getD_eq_getD_getElem?, Array.getElem?_replicate]
      split <;> simp)⟩
/-- One operation, by its own. -/
theorem calm_step {R : Nat → SRel} {a0 : Act} {w0 : World} {i : Nat} {o : Oper} (hg : o.guard = none)
    (h : ∀ (a : Act) (w : World) (K : Act → World → Prop), Below w0.heap.size w0 w → Untouched ops a0 a → Came ops R o a w → (∀ v w', (R i).p v w' → Below w.heap.size w w' → K (a.put o.dst v) w') → Oper.wp P o a w K Q) : StepOk P ops Q R a0 w0 i o := by
  intro a w K hb hu hc hK
  rw [if_pos (by simp [Region.wanted, hg])]
  exact h a w K hb hu hc hK
theorem calm_step_guard {R : Nat → SRel} {a0 : Act} {w0 : World} {i g : Nat} {b : Bool} {d : Tmp} {o : Oper} (hg : o.guard = some (g, b)) (hd : dstAt ops g = some d)
    (hv : ∀ (a : Act) (w : World), Came ops R o a w → a.tmps[d]?.getD undef = .bool b)
    (h : ∀ (a : Act) (w : World) (K : Act → World → Prop), Below w0.heap.size w0 w → Untouched ops a0 a → Came ops R o a w → (∀ v w', (R i).p v w' → Below w.heap.size w w' → K (a.put o.dst v) w') → Oper.wp P o a w K Q) : StepOk P ops Q R a0 w0 i o := by
  intro a w K hb hu hc hK
  have hy : yielded ops a.tmps g = some b := by
    have h1 := hv a w hc
    unfold dstAt at hd
    unfold yielded
    rw [hd, Option.bind_some]
    cases h2 : a.tmps[d]? with
    | none => rw [h2] at h1; cases h1
    | some v => rw [h2] at h1; have : v = .bool b := h1; rw [this]
  rw [if_pos (by simp [Region.wanted, hg, hy])]
  exact h a w K hb hu hc hK
/-- The frame behind a calm region, written out: for a cut around the region ('exact act_patch hu hsz hdf' behind 'Met.intro', 'go_step', 'repeat apply Exists.intro', 'refine ⟨?rel, ?_⟩'). -/
def dstB (ops : Array Oper) (s : Nat) : Bool := ops.toList.any fun o => o.dst == some s
/-- The slots of a frame, those that are marked as they are now. -/
def patch (a : Act) : Nat → List Value → List Bool → List Value
  | s, v :: l, b :: bs => (bif b then a.tmps[s]?.getD undef else v) :: patch a (s + 1) l bs
  | _, _, _ => []
theorem patch_eq (a : Act) (D : Nat → Bool) : ∀ (l : List Value) (s : Nat) (bs : List Bool), bs = (List.range l.length).map (fun j => D (s + j)) → patch a s l bs = (List.range l.length).map fun j => bif D (s + j) then a.tmps[s + j]?.getD undef else l[j]?.getD undef
  | [], s, bs, h => by subst h; rfl
  | v :: l, s, bs, h => by
    rw [List.length_cons, List.range_succ_eq_map, List.map_cons, List.map_map] at h
    subst h
    rw [List.length_cons, List.range_succ_eq_map, List.map_cons, List.map_map]
    show (bif D (s + 0) then a.tmps[s]?.getD undef else v) :: patch a (s + 1) l _ = _
    rw [patch_eq a D l (s + 1) _ (by apply List.map_congr_left; intro j _; simp only [Function.comp]; rw [show s + j.succ = s + 1 + j by omega])]
    congr 1
    apply List.map_congr_left
    intro j _
    simp only [Function.comp]
    rw [show s + j.succ = s + 1 + j by omega]
    rfl
theorem act_patch {a0 a : Act} {n : Nat} (bs : List Bool) (hn : a0.tmps.size = n) (hbs : bs = (List.range n).map (fun j => dstB ops (0 + j))) (hu : Untouched ops a0 a) (hsz : a.tmps.size = a0.tmps.size) (hdf : a.defers = a0.defers) :
    a = ⟨(patch a 0 a0.tmps.toList bs).toArray, a0.defers⟩ := by
  rw [patch_eq a (dstB ops) a0.tmps.toList 0 bs (by rw [hbs, Array.length_toList, hn])]
  obtain ⟨t, d⟩ := a
  simp only at hsz hdf hu ⊢
  subst hdf
  congr 1
  apply Array.ext_getElem?
  intro s
  by_cases hs : s < t.size
  · have hs2 : s < a0.tmps.toList.length := by rw [Array.length_toList]; omega
    simp only [List.getElem?_toArray, List.getElem?_map, List.getElem?_range hs2, Option.map_some, Nat.zero_add]
    cases hb : dstB ops s with
    | true => simp [hs]
    | false =>
      have h := hu s (by
        rw [List.all_eq_true]
        intro o ho
        have := List.any_eq_false.1 hb o ho
        simpa using this)
      simp only [cond_false]
      rw [Array.getElem?_toList, ← h]
      simp [hs]
  · rw [Array.getElem?_eq_none (by omega), Array.getElem?_eq_none (by simp; omega)]
theorem ret_tmp {fn : Func} {R : Ending → World → Prop} {a : Act} {w : World} {p : Tmp} {v : Value} (h : fn.results = #[.tmp p]) (hv : a.tmps[p]?.getD undef = v) (hf : a.defers = []) (hR : R (.returned v) w) : bodyPost P fn R .ret a w :=
  bodyPost_ret (v := v) (by simp [results, h, hv]) hf hR
end
end Go.Proofs.Ytakooljbkjnilaa
