/- Several texts one behind the other: At TailW Dw3 Buf Dw4 Limb Limb2 QuotP Limb3 Limb4 Ret3 Quot Limb5 Bld CalmS Dw5 Dw6 Num3 NumN Nb Num4 Num5. -/
import Derived.Test.YtdlmamnnamlleaaDoorNum2
import Derived.Test.YtdlmamnnamlleaaDoorTail
import Derived.Test.YtdlmamnnamlleaaDoorDw2
import Derived.Test.YtdlmamnnamlleaaDoorPart
import Derived.Test.YtdlmamnnamlleaaDoorApp
import Derived.Laws.CopyRow
import Derived.Laws.BitsAllLaws
import Derived.RegionTactic
import Derived.BigRegion
import Derived.Test.YtdlmamnnamlleaaDoorRet2
import Derived.Laws.Externs
import Derived.BigQuiet
import Derived.Deep.QuietTactic
import Derived.Deep.RegionLaw
import Derived.Lib.Mul64
import Derived.Lib.BitFns
import Derived.Deep.DeepCutAuto
import Derived.Test.YtdlmamnnamlleaaDoorCalm
import Derived.Test.YtdlmamnnamlleaaDoorNum
import Derived.Test.YtdlmamnnamlleaaDoorTail2
import Derived.Laws.OwnMore
namespace Go.Proofs.YtdlmamnnamlleaaDoor
open Go Go.RowKit

/-- Block g is a row of m integers f. -/
structure At (w : World) (g : Nat) (k : IntKind) (m : Nat) (f : Nat → Nat) : Prop where
  row : Row w g m
  eq : rowAt w g = arrK k m f
section
variable {w w' : World} {g m : Nat} {k : IntKind} {f f' : Nat → Nat}
theorem At.below {B : Nat} (h : At w g k m f) (hb : Below B w w') (hg : g < B) : At w' g k m f := ⟨row_below h.row hb hg, (rowAt_below hb hg).trans h.eq⟩
theorem At.step (h : At w g k m f) (hb : Below w.heap.size w w') : At w' g k m f := h.below hb h.row.lt
theorem At.cell (h : At w g k m f) {i : Nat} (hi : i < m) : w.cell? ⟨g, i, none⟩ = some (.int k (f i : Nat)) := by rw [h.row.cell, h.eq, arrK_at hi]
theorem At.new (t : TypeId) (hg : g = w.heap.size) : At (w.alloc (.cells (arrK k m f) t)) g k m f := ⟨(row_new hg).2 (arrK_size _ _ _), rowAt_new hg⟩
theorem At.old (h : At w g k m f) (o : Obj) : At (w.alloc o) g k m f := ⟨(row_old h.row.lt).2 h.row, (rowAt_old h.row.lt).trans h.eq⟩
theorem At.drew (h : At w g k m f) : At w.drew g k m f := ⟨h.row, h.eq⟩
theorem At.put (h : Row w g m) : At (w.setRow g (arrK k m f)) g k m f := ⟨(row_setRow_same rfl h).2 (arrK_size _ _ _), rowAt_setRow_same h⟩
theorem At.far (h : At w g k m f) {g' : Nat} {c : Array Value} (hg : g ≠ g') : At (w.setRow g' c) g k m f := ⟨(row_setRow_far hg).2 h.row, (rowAt_setRow_far hg).trans h.eq⟩
theorem At.farC (h : At w g k m f) {a : Addr} {v : Value} (hg : g ≠ a.block) : At (w.setCell a v) g k m f := ⟨row_setCell.2 h.row, (rowAt_setCell_far hg).trans h.eq⟩
theorem At.set (h : At w g k m f) (i v : Nat) : At (w.setCell ⟨g, i, none⟩ (.int k (v : Int))) g k m (upd f i v) := ⟨row_setCell.2 h.row, by rw [rowAt_setCell_same, h.eq, arrK_set]⟩
theorem At.congr (h : At w g k m f) (e : ∀ i < m, f i = f' i) : At w g k m f' := ⟨h.row, h.eq.trans (arrK_congr e)⟩
theorem At.lt (h : At w g k m f) : g < w.heap.size := h.row.lt
end
/-- Block g is the number n: of four words, of eight words. -/
abbrev NumAt (w : World) (g n : Nat) : Prop := At w g .u64 4 (wd n)
abbrev WideAt (w : World) (g n : Nat) : Prop := At w g .u64 8 (wd n)

theorem num_inj {a b : Nat} (ha : a < 2 ^ (64 * 4)) (hb : b < 2 ^ (64 * 4)) : (∀ i < 4, wd a i = wd b i) ↔ a = b := ⟨wd_inj ha hb, fun h _ _ => by rw [h]⟩
theorem eqlNum {a b : Nat} (ha : a < 2 ^ 256) (hb : b < 2 ^ 256) (W : World) : (binOp .eql 41 (.agg (arrK .u64 4 (wd a))) (.agg (arrK .u64 4 (wd b)))).run Tryd.prog W = .ok (.bool (decide (a = b))) W := by
  rw [run_eql_arrK Tryd.underlying41 Tryd.underlying39 (by kernel_rfl)]
  congr 2
  exact decide_eq_decide.2 (num_inj ha hb)
theorem neqNum {a b : Nat} (ha : a < 2 ^ 256) (hb : b < 2 ^ 256) (W : World) : (binOp .neq 41 (.agg (arrK .u64 4 (wd a))) (.agg (arrK .u64 4 (wd b)))).run Tryd.prog W = .ok (.bool (!decide (a = b))) W := by
  rw [run_neq_arrK Tryd.underlying41 Tryd.underlying39 (by kernel_rfl)]
  congr 3
  exact decide_eq_decide.2 (num_inj ha hb)
theorem zeroNum : #[Value.int IntKind.u64 0, Value.int IntKind.u64 0, Value.int IntKind.u64 0, Value.int IntKind.u64 0] = arrK .u64 4 (wd 0) := (arrK4 .u64 fun _ => 0).trans (arrK_congr fun i _ => (wd_zero i).symm)
theorem zeroWide : #[Value.int IntKind.u64 0, Value.int IntKind.u64 0, Value.int IntKind.u64 0, Value.int IntKind.u64 0, Value.int IntKind.u64 0, Value.int IntKind.u64 0, Value.int IntKind.u64 0, Value.int IntKind.u64 0] = arrK .u64 8 (wd 0) := (arrK8 .u64 fun _ => 0).trans (arrK_congr fun i _ => (wd_zero i).symm)
end Go.Proofs.YtdlmamnnamlleaaDoor
namespace Go.Proofs.YtdlmamnnamlleaaDoor
open Go Go.RowKit

section
variable {P : Program} {ops : Array Oper} {Q : Exit → Act → World → Prop}
def mixR (V : Nat → Option Value) (S : Nat → SRel) (i : Nat) : SRel := match V i with | some c => SRel.is c | none => S i
theorem mixR_some {V : Nat → Option Value} {S : Nat → SRel} {i : Nat} {c v : Value} {w : World} (h : V i = some c) : (mixR V S i).p v w ↔ v = c := by
  unfold mixR; rw [h]; exact Iff.rfl
/-- The one that writes. -/
def WriteOkW (P : Program) (ops : Array Oper) (Q : Exit → Act → World → Prop) (R : Nat → SRel) (a0 : Act) (w0 : World) (z : Nat) (Φ : Value → World → Prop) (o : Oper) : Prop :=
  ∀ (a : Act) (w : World) (K : Act → World → Prop), Below w0.heap.size w0 w → UntouchedT ops z a0 a → Came ops R o a w → (∀ v w', Φ v w' → K (a.put o.dst v) w') → if Region.wanted o (yielded ops a.tmps) = true then Oper.wp P o a w K Q else K (a.put o.dst undef) w
theorem write_of {R : Nat → SRel} {a0 : Act} {w0 : World} {z : Nat} {Φ : Value → World → Prop} {o : Oper} (hg : o.guard = none)
    (h : ∀ (a : Act) (w : World) (K : Act → World → Prop), Below w0.heap.size w0 w → UntouchedT ops z a0 a → Came ops R o a w → (∀ v w', Φ v w' → K (a.put o.dst v) w') → Oper.wp P o a w K Q) : WriteOkW P ops Q R a0 w0 z Φ o := by
  intro a w K hb hu hc hK
  rw [if_pos (by simp [Region.wanted, hg])]
  exact h a w K hb hu hc hK
/-- One that may run on either side of the write. -/
def PureOk (P : Program) (ops : Array Oper) (Q : Exit → Act → World → Prop) (V : Nat → Option Value) (a0 : Act) (z i : Nat) (o : Oper) : Prop :=
  ∃ c, V i = some c ∧ ∀ (a : Act) (w : World) (K : Act → World → Prop), UntouchedT ops z a0 a → Came ops (fun j => match V j with | some c => SRel.is c | none => SRel.any) o a w → K (a.put o.dst c) w → if Region.wanted o (yielded ops a.tmps) = true then Oper.wp P o a w K Q else K (a.put o.dst undef) w
theorem pure_of {V : Nat → Option Value} {a0 : Act} {z i : Nat} {o : Oper} {c : Value} (hg : o.guard = none) (hV : V i = some c)
    (h : ∀ (a : Act) (w : World) (K : Act → World → Prop), UntouchedT ops z a0 a → Came ops (fun j => match V j with | some c => SRel.is c | none => SRel.any) o a w → K (a.put o.dst c) w → Oper.wp P o a w K Q) : PureOk P ops Q V a0 z i o := by
  refine ⟨c, hV, fun a w K hu hc hK => ?_⟩
  rw [if_pos (by simp [Region.wanted, hg])]
  exact h a w K hu hc hK
/-- The last one. -/
def EndOk (P : Program) (ops : Array Oper) (Q : Exit → Act → World → Prop) (V : Nat → Option Value) (a0 : Act) (q z : Nat) (Φ : Value → World → Prop) (o : Oper) : Prop :=
  ∀ (a : Act) (w : World), UntouchedT ops z a0 a → a.tmps.size = a0.tmps.size → a.defers = a0.defers → (∀ j d c, j ≠ z → V j = some c → dstAt ops j = some d → a.tmps[d]?.getD undef = c) → (∃ v, Φ v w ∧ ∀ d, dstAt ops q = some d → a.tmps[d]?.getD undef = v) →
    if Region.wanted o (yielded ops a.tmps) = true then Oper.wp P o a w (fun a' w' => Q .normal a' w') Q else Q .normal (a.put o.dst undef) w
theorem end_of {V : Nat → Option Value} {a0 : Act} {q z : Nat} {Φ : Value → World → Prop} {o : Oper} (hg : o.guard = none)
    (h : ∀ (a : Act) (w : World), UntouchedT ops z a0 a → a.tmps.size = a0.tmps.size → a.defers = a0.defers → (∀ j d c, j ≠ z → V j = some c → dstAt ops j = some d → a.tmps[d]?.getD undef = c) → (∃ v, Φ v w ∧ ∀ d, dstAt ops q = some d → a.tmps[d]?.getD undef = v) → Oper.wp P o a w (fun a' w' => Q .normal a' w') Q) : EndOk P ops Q V a0 q z Φ o := by
  intro a w hu hsz hdf hc hf
  rw [if_pos (by simp [Region.wanted, hg])]
  exact h a w hu hsz hdf hc hf
def StepsW (P : Program) (ops : Array Oper) (Q : Exit → Act → World → Prop) (V : Nat → Option Value) (S : Nat → SRel) (a0 : Act) (w0 : World) (q z : Nat) (Φ : Value → World → Prop) : Nat → List Oper → Prop
  | _, [] => True
  | i, o :: l => (if i = q then WriteOkW P ops Q (mixR V S) a0 w0 z Φ o else if i = z then EndOk P ops Q V a0 q z Φ o else if pathB ops ops.size q i = true then StepOkT P ops Q (mixR V S) a0 w0 z i o else PureOk P ops Q V a0 z i o) ∧ StepsW P ops Q V S a0 w0 q z Φ (i + 1) l
theorem stepsW_at {V : Nat → Option Value} {S : Nat → SRel} {a0 : Act} {w0 : World} {q z : Nat} {Φ : Value → World → Prop} : ∀ (l : List Oper) (n i : Nat) (o : Oper), StepsW P ops Q V S a0 w0 q z Φ n l → l[i]? = some o →
    if n + i = q then WriteOkW P ops Q (mixR V S) a0 w0 z Φ o else if n + i = z then EndOk P ops Q V a0 q z Φ o else if pathB ops ops.size q (n + i) = true then StepOkT P ops Q (mixR V S) a0 w0 z (n + i) o else PureOk P ops Q V a0 z (n + i) o
  | [], n, i, o, _, h => by simp at h
  | x :: l, n, 0, o, h1, h => by
      have : x = o := by simpa using h
      subst this
      exact h1.1
  | x :: l, n, i + 1, o, h1, h => by
      have := stepsW_at l (n + 1) i o h1.2 (by simpa using h)
      rw [show n + (i + 1) = n + 1 + i by omega]
      exact this
theorem wp_region_write {id : Nat} {a0 : Act} {w0 : World} (V : Nat → Option Value) (S : Nat → SRel) (q z : Nat) (Φ : Value → World → Prop) (hm : P.follows .mixedOrders = true) (he : edgesOk ops = true) (hd : dstsOk ops = true) (hz : slotsOk ops a0.tmps.size = true) (hX : tEdges ops z = true)
    (hqz : q ≠ z) (hqV : V q = none) (hqn : q < ops.size) (hzn : z < ops.size) (hstep : StepsW P ops Q V S a0 w0 q z Φ 0 ops.toList) : (Code.region id ops true).wp P Q a0 w0 := by
  refine wp_region_any hm ?_
  have hlt : ∀ i d, dstAt ops i = some d → i < ops.size := fun i d h => by
    unfold dstAt at h
    rcases Nat.lt_or_ge i ops.size with h1 | h1
    · exact h1
    · rw [Array.getElem?_eq_none h1] at h; cases h
  have hdst : ∀ i j d e, i ≠ j → dstAt ops i = some d → dstAt ops j = some e → d ≠ e := by
    intro i j d e hij h1 h2
    have := List.all_eq_true.1 (List.all_eq_true.1 hd i (by simpa using hlt i d h1)) j (by simpa using hlt j e h2)
    rw [h1, h2] at this
    simpa [hij] using this
  have hslot : ∀ i d, dstAt ops i = some d → d < a0.tmps.size := by
    intro i d h1
    have := List.all_eq_true.1 hz i (by simpa using hlt i d h1)
    rw [h1] at this
    simpa using this
  obtain ⟨f, hf⟩ : ∃ f, ops.size = f + 1 := ⟨ops.size - 1, by omega⟩
  have hcl2 : ∀ (listed : Array Bool) (i : Nat) (o : Oper), i < listed.size → (∀ k o, listed.getD k false = true → ops[k]? = some o → ∀ e ∈ o.after, Region.binds .any e = true → listed.getD e.on false = true) → ops[i]? = some o → (∀ e ∈ o.after, Region.binds .any e = true → listed.getD e.on false = true) →
      (∀ k o, (listed.setIfInBounds i true).getD k false = true → ops[k]? = some o → ∀ e ∈ o.after, Region.binds .any e = true → (listed.setIfInBounds i true).getD e.on false = true) := by
    intro listed i o hil hcl ho h2 k o' hk ho' e he1 he2
    have hle : listed.getD e.on false = true := by
      by_cases hki : k = i
      · subst hki
        rw [ho] at ho'
        cases ho'
        exact h2 e he1 he2
      · have hk' : listed.getD k false = true := by simpa [Array.getElem?_setIfInBounds_ne (Ne.symm hki)] using hk
        exact hcl k o' hk' ho' e he1 he2
    by_cases hei : e.on = i
    · rw [hei]; simp [hil]
    · simpa [Array.getElem?_setIfInBounds_ne (Ne.symm hei)] using hle
  have hpath : ∀ (listed : Array Bool) (i j : Nat) (o : Oper), (∀ k o, listed.getD k false = true → ops[k]? = some o → ∀ e ∈ o.after, Region.binds .any e = true → listed.getD e.on false = true) →
      ops[i]? = some o → (∀ e ∈ o.after, Region.binds .any e = true → listed.getD e.on false = true) → pathB ops ops.size i j = true → listed.getD j false = true := by
    intro listed i j o hcl ho h2 hp
    rw [hf] at hp
    obtain ⟨o', ho', e, he, hb', h6⟩ := path_on hp
    rw [ho] at ho'
    cases ho'
    have hl := h2 e he hb'
    rcases h6 with h6 | h6
    · rw [← h6]; exact hl
    · exact path_listed hcl f e.on j hl h6
  have hunt : ∀ (a : Act) (i : Nat) (o : Oper) (v : Value), i ≠ z → ops[i]? = some o → i < ops.size → UntouchedT ops z a0 a → UntouchedT ops z a0 (a.put o.dst v) := by
    intro a i o v hiz ho hi hu s hs'
    have hns : o.dst ≠ some s := by
      have h6 := List.all_eq_true.1 hs' i (by simpa using hi)
      rw [Bool.or_eq_true] at h6
      rcases h6 with h6 | h6
      · exact absurd (by simpa using h6) hiz
      · unfold dstAt at h6
        rw [ho] at h6
        simpa using h6
    rw [← hu s hs']
    cases hd' : o.dst with
    | none => rfl
    | some d =>
      have hne : d ≠ s := fun e => hns (by rw [hd', e])
      simp [Act.put, Array.getElem?_setIfInBounds_ne hne]
  have hput : ∀ (a : Act) (i : Nat) (o : Oper) (v : Value) (d : Tmp), ops[i]? = some o → dstAt ops i = some d → a.tmps.size = a0.tmps.size → (a.put o.dst v).tmps[d]?.getD undef = v := by
    intro a i o v d ho hjd hsz
    have hd1 := hslot i d hjd
    have hod : o.dst = some d := by unfold dstAt at hjd; rw [ho] at hjd; exact hjd
    rw [hod]
    rw [← hsz] at hd1
    simp [Act.put, hd1]
  have hoth : ∀ (a : Act) (i j : Nat) (o : Oper) (v : Value) (d : Tmp), i ≠ j → ops[i]? = some o → dstAt ops j = some d → (a.put o.dst v).tmps[d]?.getD undef = a.tmps[d]?.getD undef := by
    intro a i j o v d hij ho hjd
    cases hd' : o.dst with
    | none => rfl
    | some d' =>
      have hne : d' ≠ d := hdst i j d' d hij (by unfold dstAt; rw [ho]; exact hd') hjd
      simp [Act.put, Array.getElem?_setIfInBounds_ne hne]
  have hsz2 : ∀ (a : Act) (o : Oper) (v : Value), (a.put o.dst v).tmps.size = a.tmps.size := by
    intro a o v; cases hd' : o.dst <;> simp [Act.put]
  have hdf2 : ∀ (a : Act) (o : Oper) (v : Value), (a.put o.dst v).defers = a.defers := by
    intro a o v; cases hd' : o.dst <;> simp [Act.put]
  have hset : ∀ (listed : Array Bool) (i j : Nat), i ≠ j → (listed.setIfInBounds i true).getD j false = listed.getD j false := by
    intro listed i j hij; simp [Array.getElem?_setIfInBounds_ne hij]
  refine wpAny_inv he (fun listed a w => ((∀ k o, listed.getD k false = true → ops[k]? = some o → ∀ e ∈ o.after, Region.binds .any e = true → listed.getD e.on false = true) ∧ listed.getD z false = false ∧ UntouchedT ops z a0 a ∧ a.tmps.size = a0.tmps.size ∧ a.defers = a0.defers ∧
      (∀ j d c, listed.getD j false = true → V j = some c → dstAt ops j = some d → a.tmps[d]?.getD undef = c) ∧
      ((listed.getD q false = false ∧ Below w0.drew.heap.size w0.drew w ∧ ∀ j d, listed.getD j false = true → dstAt ops j = some d → (mixR V S j).p (a.tmps[d]?.getD undef) w) ∨ (listed.getD q false = true ∧ ∃ v, Φ v w ∧ ∀ d, dstAt ops q = some d → a.tmps[d]?.getD undef = v))) ∨ ((∀ j, j < ops.size → listed.getD j false = true) ∧ Q .normal a w)) ?_ ?_ _ _ _ _ (by simp) ?_ ?_
  · rintro listed a w i o hs (⟨hcl, hzl, hu, hsz, hdf, hV, hI⟩ | ⟨hall, -⟩) hi h1 ho h2
    · have hil : i < listed.size := by omega
      have hst := stepsW_at ops.toList 0 i o hstep (by rw [Array.getElem?_toList]; exact ho)
      rw [Nat.zero_add] at hst
      have hcl' := hcl2 listed i o hil hcl ho h2
      have h1' : listed.getD i false = false := by
        rw [Array.getD_eq_getD_getElem?] at h1 ⊢
        simp [hil] at h1 ⊢
        exact h1
      have hcame : ∀ j, (o.after.toList.any fun e => e.on == j && Region.binds .any e) = true → listed.getD j false = true := by
        intro j hj
        obtain ⟨e, he1, he2⟩ := List.any_eq_true.1 hj
        have he1 : e ∈ o.after := Array.mem_toList_iff.1 he1
        simp only [Bool.and_eq_true, beq_iff_eq] at he2
        rw [← he2.1]
        exact h2 e he1 he2.2
      by_cases hiq : i = q
      · -- the write
        subst hiq
        rw [if_pos rfl] at hst
        rcases hI with ⟨hql, hb, hR⟩ | ⟨hql, -⟩
        · refine wpOp_step ho fun K hK => hst a w K (below_step hb (Below.refl _ _).drew (Nat.le_refl _)) hu (fun j d hj hjd => hR j d (hcame j hj) hjd) fun v w' hv => hK _ _ (.inl ⟨hcl', by rw [hset _ _ _ hqz]; exact hzl, hunt a i o v hqz ho hi hu, by rw [hsz2]; exact hsz, by rw [hdf2]; exact hdf, fun j d c hj hVj hjd => ?_, .inr ⟨by simp [hil], v, hv, fun d hd' => hput a i o v d ho hd' hsz⟩⟩)
          by_cases hij : i = j
          · subst hij; rw [hqV] at hVj; cases hVj
          · rw [hset _ _ _ hij] at hj
            rw [hoth a i j o v d hij ho hjd]
            exact hV j d c hj hVj hjd
        · rw [h1'] at hql; cases hql
      · rw [if_neg hiq] at hst
        by_cases hiz : i = z
        · -- the last
          subst hiz
          rw [if_pos rfl] at hst
          have hallj : ∀ j, j < ops.size → j ≠ i → listed.getD j false = true := by
            intro j hj hji
            have h5 := List.all_eq_true.1 hX j (by simpa using hj)
            rw [Bool.or_eq_true] at h5
            rcases h5 with h5 | h5
            · exact absurd (by simpa using h5) hji
            · exact hpath listed i j o hcl ho h2 h5
          have hql := hallj q hqn (Ne.symm hiq)
          have hF : ∃ v, Φ v w ∧ ∀ d, dstAt ops q = some d → a.tmps[d]?.getD undef = v := by
            rcases hI with ⟨hq2, -⟩ | ⟨-, hF⟩
            · rw [hql] at hq2; cases hq2
            · exact hF
          have hL := hst a w hu hsz hdf (fun j d c hj hVj hjd => hV j d c (hallj j (hlt j d hjd) hj) hVj hjd) hF
          refine wpOp_step ho fun K hK => ?_
          have hk : ∀ a' w', Q .normal a' w' → K a' w' := fun a' w' h => hK a' w' (.inr ⟨fun j hj => by
            by_cases hji : j = i
            · subst hji; simp [hil]
            · rw [hset _ _ _ (Ne.symm hji)]; exact hallj j hj hji, h⟩)
          by_cases hw : Region.wanted o (yielded ops a.tmps) = true
          · rw [if_pos hw] at hL ⊢
            exact Oper.wp_mono (fun a' w' h => hk a' w' h) hL
          · rw [if_neg hw] at hL ⊢
            exact hk _ _ hL
        · rw [if_neg hiz] at hst
          by_cases hp : pathB ops ops.size q i = true
          · -- ahead of the write
            rw [if_pos hp] at hst
            rcases hI with ⟨hql, hb, hR⟩ | ⟨hql, -⟩
            · refine wpOp_step ho fun K hK => hst a w K (below_step hb (Below.refl _ _).drew (Nat.le_refl _)) hu (fun j d hj hjd => hR j d (hcame j hj) hjd) fun v w' hv hb' => hK _ _ (.inl ⟨hcl', by rw [hset _ _ _ hiz]; exact hzl, hunt a i o v hiz ho hi hu, by rw [hsz2]; exact hsz, by rw [hdf2]; exact hdf, fun j d c hj hVj hjd => ?_, .inl ⟨by rw [hset _ _ _ hiq]; exact hql, below_step hb' hb (Nat.le_refl _), fun j d hj hjd => ?_⟩⟩)
              · by_cases hij : i = j
                · subst hij
                  rw [hput a i o v d ho hjd hsz]
                  exact (mixR_some hVj).1 hv
                · rw [hset _ _ _ hij] at hj
                  rw [hoth a i j o v d hij ho hjd]
                  exact hV j d c hj hVj hjd
              · by_cases hij : i = j
                · subst hij
                  rw [hput a i o v d ho hjd hsz]
                  exact hv
                · rw [hset _ _ _ hij] at hj
                  rw [hoth a i j o v d hij ho hjd]
                  exact (mixR V S j).st _ _ _ hb' (hR j d hj hjd)
            · have hqo : ∃ oq, ops[q]? = some oq := ⟨ops[q], Array.getElem?_eq_getElem hqn⟩
              obtain ⟨oq, hoq⟩ := hqo
              rw [hpath listed q i oq hcl hoq (fun e he1 he2 => hcl q oq hql hoq e he1 he2) hp] at h1'
              cases h1'
          · -- on either side
            rw [if_neg hp] at hst
            obtain ⟨c, hc, hst⟩ := hst
            refine wpOp_step ho fun K hK => hst a w K hu (fun j d hj hjd => ?_) (hK _ _ (.inl ⟨hcl', by rw [hset _ _ _ hiz]; exact hzl, hunt a i o c hiz ho hi hu, by rw [hsz2]; exact hsz, by rw [hdf2]; exact hdf, fun j d c' hj hVj hjd => ?_, ?_⟩))
            · show (match V j with | some c => SRel.is c | none => SRel.any).p _ _
              cases hVj : V j with
              | none => trivial
              | some cj => exact hV j d cj (hcame j hj) hVj hjd
            · by_cases hij : i = j
              · subst hij
                rw [hput a i o c d ho hjd hsz]
                rw [hc] at hVj
                cases hVj
                rfl
              · rw [hset _ _ _ hij] at hj
                rw [hoth a i j o c d hij ho hjd]
                exact hV j d c' hj hVj hjd
            · rcases hI with ⟨hql, hb, hR⟩ | ⟨hql, hF⟩
              · refine .inl ⟨by rw [hset _ _ _ hiq]; exact hql, hb, fun j d hj hjd => ?_⟩
                by_cases hij : i = j
                · subst hij
                  rw [hput a i o c d ho hjd hsz]
                  exact (mixR_some hc).2 rfl
                · rw [hset _ _ _ hij] at hj
                  rw [hoth a i j o c d hij ho hjd]
                  exact hR j d hj hjd
              · obtain ⟨v, hv1, hv2⟩ := hF
                exact .inr ⟨by rw [hset _ _ _ hiq]; exact hql, v, hv1, fun d hd' => by rw [hoth a i q o c d hiq ho hd']; exact hv2 d hd'⟩
    · have h3 := hall i hi
      rw [Array.getD_eq_getD_getElem?] at h3
      have hil : i < listed.size := by omega
      simp [hil] at h1 h3
      rw [h1] at h3
      cases h3
  · rintro listed a w (⟨-, hq, -⟩ | ⟨-, h⟩) hall
    · have := hall z hzn
      rw [hq] at this
      cases this
    · exact h
  · unfold left
    rw [Array.toList_replicate]
    exact Nat.le_trans (List.length_filter_le _ _) (by simp)
  · have h0 : ∀ j, (Array.replicate ops.size false).getD j false = false := fun j => by
      rw [Array.getD_eq_getD_getElem?, Array.getElem?_replicate]
      split <;> simp
    exact .inl ⟨fun k o hk => absurd hk (by rw [h0]; simp), h0 z, fun _ _ => rfl, rfl, rfl, fun j d c hj => absurd hj (by rw [h0]; simp), .inl ⟨h0 q, Below.refl _ _, fun j d hj => absurd hj (by rw [h0]; simp)⟩⟩
end
end Go.Proofs.YtdlmamnnamlleaaDoor
namespace Go.Proofs.YtdlmamnnamlleaaDoor
open Go.ChangeShapes Go.WideShapes Go.ChangeAt Go.RowKit
set_option maxHeartbeats 2000000
set_option maxRecDepth 100000
attribute [local irreducible] arrV dgA sha macA macZ srcB
attribute [local go_sem] isHead_mk isPart_mk offOf_mk blkOf_mk isAgg_mk cellsV_mk row_drew rowAt_drew row_new_cells row_old rowAt_new rowAt_old setRow_new zeroD
theorem zero8b : #[Value.int IntKind.u8 0, Value.int IntKind.u8 0, Value.int IntKind.u8 0, Value.int IntKind.u8 0, Value.int IntKind.u8 0, Value.int IntKind.u8 0, Value.int IntKind.u8 0, Value.int IntKind.u8 0] = arrK .u8 8 fun _ => 0 := by kernel_rfl
/-- The first k of eight bytes. -/
def b8F (q k : Nat) : Nat → Nat := fun i => if i < k then q / 2 ^ (56 - 8 * i) % 256 else 0
theorem b8F_succ (q k : Nat) : ∀ i < 8, upd (b8F q k) k (q / 2 ^ (56 - 8 * k) % 256) i = b8F q (k + 1) i := fun i _ => by
  unfold upd b8F
  by_cases h : i = k
  · subst h; rw [if_pos rfl, if_pos (by omega)]
  · rw [if_neg h]
    by_cases h2 : i < k
    · rw [if_pos h2, if_pos (by omega)]
    · rw [if_neg h2, if_neg (by omega)]
theorem bytesV_be8 (q : Nat) : (arrK .u8 8 (b8F q 8)).toList = bytesV (be8 q) := by
  apply List.ext_getElem?
  intro i
  by_cases hi : i < 8
  · rw [Array.getElem?_toList, arrK_at hi]
    unfold b8F be8 bytesV u8v
    rw [if_pos hi]
    simp [hi]
  · rw [List.getElem?_eq_none (by rw [Array.length_toList, arrK_size]; omega), List.getElem?_eq_none (by rw [bytesV_length, be8_len]; omega)]
theorem bs_be8 {w : World} {g q : Nat} (h : At w g .u8 8 (b8F q 8)) : Bs w (some ⟨g, 0, none⟩) (be8 q) 8 := by
  obtain ⟨cs, t, hg, -⟩ := h.row
  have e : cs = arrK .u8 8 (b8F q 8) := by rw [← h.eq]; simp [rowAt, hg]
  exact ⟨by rw [← bytesV_be8, ← e]; exact Rd.of_blk hg h.lt, by rw [be8_len]; exact Nat.le_refl _, by omega⟩
section
variable {w : World} {dst : Option Tmp} {x y : Operand} {tt : TypeId} {pos : String} {af : Array Edge} {gd : Option (Nat × Bool)} {a : Act} {K : Act → World → Prop} {Q : Exit → Act → World → Prop}
theorem load_skey (hv : IsPart (a.eval x)) (h : Row w (blkOf (a.eval x)) 180) (ho : offOf (a.eval x) + 146 ≤ 180) :
    Oper.wp Tryd.prog ⟨dst, .load 101 x, tt, pos, af, gd⟩ a w K Q ↔ K (a.put dst (.agg ((rowAt w (blkOf (a.eval x))).extract (offOf (a.eval x)) (offOf (a.eval x) + 146)))) w :=
  wp_load_part Tryd.underlying101 rfl (by kernel_rfl) hv h ho
theorem store_sblk (hv : IsPart (a.eval x)) (h : Row w (blkOf (a.eval x)) 180) (ho : offOf (a.eval x) + 32 ≤ 180) (hx : IsAgg (a.eval y) 32) :
    Oper.wp Tryd.prog ⟨dst, .store 57 x y, tt, pos, af, gd⟩ a w K Q ↔ K (a.put dst undef) (w.setRow (blkOf (a.eval x)) (putAt (rowAt w (blkOf (a.eval x))) (offOf (a.eval x)) (cellsV (a.eval y)).toList)) :=
  wp_store_part (by kernel_rfl) hv h ho hx
end
attribute [local go_sem ↓] load_skey store_sblk
attribute [local go_sem] srcB_put
def DwPhi (K : Nat → W32) (w0 : World) (seed : List UInt8) (p : Nat) (m : Bool) (bl : List UInt8) (W : World) (_ : Value) (w' : World) : Prop := SrcAt K w0 seed p m bl w' ∧ KbG w0.heap.size W w'
theorem src_inv {K : Nat → W32} {seed d : List UInt8} {p : Nat} (h : d = blkL K seed p) (hp : p < 18446744073709551616) : true = true → plc p 1 % 32 ≠ 0 → d = blkL K seed (plc p 1) := fun _ h2 => by
  rw [h]
  unfold blkL
  have : plc p 1 / 32 = p / 32 := by unfold plc at *; omega
  rw [this]
def NextR (K : Nat → W32) (w0 : World) (seed : List UInt8) (p : Nat) (W : World) (e : Ending) (w' : World) : Prop :=
  e = .returned (.int .u8 (dwB K seed p : Nat)) ∧ (∃ d, SrcAt K w0 seed (plc p 1) true d w') ∧ KbG w0.heap.size W w'
theorem src_next (K : Nat → W32) (w0 : World) (seed : List UInt8) (p : Nat) (m : Bool) (d : List UInt8) (w : World) (h : SrcAt K w0 seed p m d w) (hT : Tabs K w0) :
    Calls Tryd.prog 35 #[.pointer (some ⟨w0.heap.size, 0, none⟩)] w (NextR K w0 seed p w) := by
  have c0 := h.cP
  have c1 := h.cM
  have hpl := h.pl
  have hlt := Lib.hid h.row.lt
  have hh := Lib.hid h
  have hTh := Lib.hid hT
  have hrem : Int.tmod (p : Int) 32 = ((p % 32 : Nat) : Int) := by rw [Int.tmod_eq_emod_of_nonneg (by omega)]; omega
  have hquo : Int.tdiv (p : Int) 32 = ((p / 32 : Nat) : Int) := by rw [Int.tdiv_eq_ediv_of_nonneg (by omega)]; omega
  have hrh := Lib.hid (show p % 32 < 32 from Nat.mod_lt _ (by omega))
  have hqh := Lib.hid (show p / 32 < 576460752303423488 by omega)
  obtain ⟨r, hr⟩ : ∃ r, p % 32 = r := ⟨_, rfl⟩
  obtain ⟨q, hq⟩ : ∃ q, p / 32 = q := ⟨_, rfl⟩
  rw [hr] at hrem hrh
  rw [hq] at hquo hqh
  have hre := Lib.hid (And.intro hr hq)
  have hremh := Lib.hid hrem
  clear h hT hr hq
  go_enter Tryd.func35, Tryd.ntmps35
  by_cases hrec : r = 0 ∨ m = false
  · obtain ⟨bq, hbq⟩ : ∃ b, ((r : Int) == 0) = b := ⟨_, rfl⟩
    have hrc := Lib.hid hrec
    have hgo : bq = true ∨ (bq = false ∧ m = false) := by
      rcases hrec with e | e
      · subst e; left; rw [← hbq]; rfl
      · cases bq
        · exact .inr ⟨rfl, e⟩
        · exact .inl rfl
    clear hrec
    rcases hgo with rfl | ⟨rfl, rfl⟩
    all_goals
      go_upto_region 4 with (fail)
      rw [zero8b]
      have hL := Lib.hid (below_alloc w (Obj.cells (arrK .u8 8 fun _ => 0) 126))
      have hB := Lib.hid (show At (w.alloc (Obj.cells (arrK .u8 8 fun _ => 0) 126)) w.heap.size .u8 8 (b8F q 0) from At.new _ rfl)
      replace hh := Lib.hid (hh.out.step hL.out)
      clear c0 c1 hrem
      generalize w.alloc _ = W1 at *
      go_loopw [19] (fun iv wr => ∃ k : Nat, iv = .int .i64 k ∧ k ≤ 8 ∧ Hid (At wr w.heap.size .u8 8 (b8F q k)) ∧ Hid (SrcAt K w0 seed p _ d wr) ∧ Hid (Below w.heap.size w wr)) (fun iv _ => 8 - (intOf iv).toNat)
      case atStart => exact ⟨0, rfl, Nat.zero_le _, hB, hh, hL⟩
      case round =>
        clear hB hh hL
        obtain ⟨k, rfl, hk, hB, hh, hL⟩ := hrel
        by_cases hk8 : k = 8
        · subst hk8
          have d1 : decide (((8 : Nat) : Int) < 8) = false := by decide
          have hbs := Lib.hid (bs_be8 hB.out)
          obtain ⟨mm, hh⟩ : ∃ mm, Hid (SrcAt K w0 seed p mm d wr) := ⟨_, hh⟩
          have hTr := Lib.hid (hTh.out.step hh.out.bel)
          have kW := Lib.hid (fun V (hb : Below wr.heap.size wr V) => by have := mac_Write K (keyL K seed) [] (some ⟨w.heap.size, 0, none⟩) (be8 q) 8 V (hTr.out.step hb) (hbs.out.step hb); rwa [be8_len, List.nil_append] at this)
          have kS := Lib.hid (fun V (hb : Below wr.heap.size wr V) => mac_StMark K seed (be8 q) V (hTr.out.step hb))
          have hKw := Lib.hid (KbG.of (g := w0.heap.size) hL.out)
          have hbe := Lib.hid (show markL K seed (be8 q) = blkL K seed p by unfold blkL; rw [hre.out.2])
          obtain ⟨bl, hbl⟩ : ∃ b, markL K seed (be8 q) = b := ⟨_, rfl⟩
          rw [hbl] at kS hbe
          clear hbl
          rw [show ((8 : Nat) : Int) = (8 : Int) from rfl] at *
          go_upto_region 8 with (fail)
          generalize ha0 : Act.mk _ _ = a0
          have e0 : a0.tmps[0]?.getD undef = .pointer (some ⟨w0.heap.size, 0, none⟩) := by rw [← ha0]; rfl
          have e3 : a0.tmps[3]?.getD undef = .pointer (some ⟨w.heap.size, 0, none⟩) := by rw [← ha0]; rfl
          have hz0 : a0.tmps.size = 67 := by rw [← ha0]; rfl
          have hha0 := Lib.hid ha0
          clear ha0
          refine wp_region_write (fun jx_ => match jx_ with | 0 => some (.pointer (some ⟨w0.heap.size, 0, none⟩)) | 1 => some (.pointer (some ⟨w0.heap.size, 0, none⟩)) | 2 => some (.pointer (some ⟨w0.heap.size, 0, none⟩)) | 3 => some (.pointer (some ⟨w0.heap.size, 0, none⟩)) | 4 => some (.pointer (some ⟨w0.heap.size, 0, none⟩)) | 5 => some (.agg (macA K (keyL K seed) [])) | 6 => some (.slice (some ⟨w.heap.size, 0, none⟩) 8 8) | 7 => some (.agg (macA K (keyL K seed) (be8 q))) | 8 => some (.agg (dgA bl)) | 9 => some (.pointer (some ⟨w0.heap.size, 0, none⟩)) | 10 => some (.pointer (some ⟨w0.heap.size, 147, none⟩)) | 12 => some (.pointer (some ⟨w0.heap.size, 0, none⟩)) | 13 => some (.pointer (some ⟨w0.heap.size, 179, none⟩)) | _ => none) (fun jx_ => match jx_ with | 11 => SRel.any | 14 => SRel.any | _ => SRel.any) 11 14 (DwPhi K w0 seed p mm bl w) (by kernel_rfl) (by kernel_rfl) (by kernel_rfl) (slotsOk_of hz0 (by kernel_rfl)) (by kernel_rfl) (by decide) rfl (of_decide_eq_true (by kernel_rfl)) (of_decide_eq_true (by kernel_rfl)) ⟨?_, ?_, ?_, ?_, ?_, ?_, ?_, ?_, ?_, ?_, ?_, ?_, ?_, ?_, ?_, trivial⟩
          · rw [if_neg (by decide), if_neg (by decide), if_pos (by kernel_rfl)]
            refine calmT_step rfl fun a ω κ hb hu hc hK => ?_
            have h0 : a.tmps[0]?.getD undef = .pointer (some ⟨w0.heap.size, 0, none⟩) := (hu 0 rfl).trans e0
            have hk := Lib.hid (fun w1 (h : Below ω.heap.size ω w1) => hK (.pointer (some ⟨w0.heap.size, 0, none⟩)) w1 rfl h)
            clear hK hu hc
            go_simp
            exact hk.out _ (Below.refl _ _)
          · rw [if_neg (by decide), if_neg (by decide), if_neg (by rw [show pathB _ _ _ _ = false from by kernel_rfl]; decide)]
            refine pure_of rfl rfl fun a ω κ hu hc hK => ?_
            have h0 : a.tmps[0]?.getD undef = .pointer (some ⟨w0.heap.size, 0, none⟩) := (hu 0 rfl).trans e0
            have hk := Lib.hid hK
            clear hK hu hc
            go_simp
            exact hk.out
          · rw [if_neg (by decide), if_neg (by decide), if_pos (by kernel_rfl)]
            refine calmT_step rfl fun a ω κ hb hu hc hK => ?_
            have h0 : a.tmps[0]?.getD undef = .pointer (some ⟨w0.heap.size, 0, none⟩) := (hu 0 rfl).trans e0
            have hk := Lib.hid (fun w1 (h : Below ω.heap.size ω w1) => hK (.pointer (some ⟨w0.heap.size, 0, none⟩)) w1 rfl h)
            clear hK hu hc
            go_simp
            exact hk.out _ (Below.refl _ _)
          · rw [if_neg (by decide), if_neg (by decide), if_pos (by kernel_rfl)]
            refine calmT_step rfl fun a ω κ hb hu hc hK => ?_
            have h38 : a.tmps[38]?.getD undef = .pointer (some ⟨w0.heap.size, 0, none⟩) := hc 2 38 rfl rfl
            have hk := Lib.hid (fun w1 (h : Below ω.heap.size ω w1) => hK (.pointer (some ⟨w0.heap.size, 0, none⟩)) w1 rfl h)
            clear hK hu hc
            go_simp
            exact hk.out _ (Below.refl _ _)
          · rw [if_neg (by decide), if_neg (by decide), if_pos (by kernel_rfl)]
            refine calmT_step rfl fun a ω κ hb hu hc hK => ?_
            have h39 : a.tmps[39]?.getD undef = .pointer (some ⟨w0.heap.size, 0, none⟩) := hc 3 39 rfl rfl
            have hk := Lib.hid (fun w1 (h : Below ω.heap.size ω w1) => hK (.pointer (some ⟨w0.heap.size, 0, none⟩)) w1 rfl h)
            clear hK hu hc
            go_simp
            exact hk.out _ (Below.refl _ _)
          · rw [if_neg (by decide), if_neg (by decide), if_pos (by kernel_rfl)]
            refine calmT_step rfl fun a ω κ hb hu hc hK => ?_
            have h40 : a.tmps[40]?.getD undef = .pointer (some ⟨w0.heap.size, 0, none⟩) := hc 4 40 rfl rfl
            have hk := Lib.hid (fun w1 (h : Below ω.heap.size ω w1) => hK (.agg (macA K (keyL K seed) [])) w1 rfl h)
            clear hK hu hc
            have hr1 := (hh.out.step hb).row
            have hr2 := (hh.out.step hb).eq
            have hr3 := srcB_key (b := macA K (keyL K seed) []) (p := p) (d := d) (m := mm) (macA_cells K (keyL K seed) []).1
            go_simp
            exact hk.out _ (Below.refl _ _)
          · rw [if_neg (by decide), if_neg (by decide), if_pos (by kernel_rfl)]
            refine calmT_step rfl fun a ω κ hb hu hc hK => ?_
            have h3 : a.tmps[3]?.getD undef = .pointer (some ⟨w.heap.size, 0, none⟩) := (hu 3 rfl).trans e3
            have hk := Lib.hid (fun w1 (h : Below ω.heap.size ω w1) => hK (.slice (some ⟨w.heap.size, 0, none⟩) 8 8) w1 rfl h)
            clear hK hu hc
            go_simp
            exact hk.out _ (Below.refl _ _)
          · rw [if_neg (by decide), if_neg (by decide), if_pos (by kernel_rfl)]
            refine calmT_step rfl fun a ω κ hb hu hc hK => ?_
            have h41 : a.tmps[41]?.getD undef = .agg (macA K (keyL K seed) []) := hc 5 41 rfl rfl
            have h42 : a.tmps[42]?.getD undef = .slice (some ⟨w.heap.size, 0, none⟩) 8 8 := hc 6 42 rfl rfl
            have hk := Lib.hid (fun w1 (h : Below ω.heap.size ω w1) => hK (.agg (macA K (keyL K seed) (be8 q))) w1 rfl h)
            clear hK hu hc
            go_simp
            go_at_call 61
            refine (kW.out ω hb).mono ?_
            rintro e w1 ⟨rfl, hb1⟩
            exact hk.out _ hb1
          · rw [if_neg (by decide), if_neg (by decide), if_pos (by kernel_rfl)]
            refine calmT_step rfl fun a ω κ hb hu hc hK => ?_
            have h43 : a.tmps[43]?.getD undef = .agg (macA K (keyL K seed) (be8 q)) := hc 7 43 rfl rfl
            have hk := Lib.hid (fun w1 (h : Below ω.heap.size ω w1) => hK (.agg (dgA bl)) w1 rfl h)
            clear hK hu hc
            go_simp
            go_at_call 62
            refine (kS.out ω hb).mono ?_
            rintro e w1 ⟨rfl, hb1⟩
            exact hk.out _ hb1
          · rw [if_neg (by decide), if_neg (by decide), if_pos (by kernel_rfl)]
            refine calmT_step rfl fun a ω κ hb hu hc hK => ?_
            have h36 : a.tmps[36]?.getD undef = .pointer (some ⟨w0.heap.size, 0, none⟩) := hc 0 36 rfl rfl
            have hk := Lib.hid (fun w1 (h : Below ω.heap.size ω w1) => hK (.pointer (some ⟨w0.heap.size, 0, none⟩)) w1 rfl h)
            clear hK hu hc
            go_simp
            exact hk.out _ (Below.refl _ _)
          · rw [if_neg (by decide), if_neg (by decide), if_pos (by kernel_rfl)]
            refine calmT_step rfl fun a ω κ hb hu hc hK => ?_
            have h45 : a.tmps[45]?.getD undef = .pointer (some ⟨w0.heap.size, 0, none⟩) := hc 9 45 rfl rfl
            have hk := Lib.hid (fun w1 (h : Below ω.heap.size ω w1) => hK (.pointer (some ⟨w0.heap.size, 147, none⟩)) w1 rfl h)
            clear hK hu hc
            go_simp
            exact hk.out _ (Below.refl _ _)
          · rw [if_pos rfl]
            refine write_of rfl fun a ω κ hb hu hc hK => ?_
            have h46 : a.tmps[46]?.getD undef = .pointer (some ⟨w0.heap.size, 147, none⟩) := hc 10 46 rfl rfl
            have h44 : a.tmps[44]?.getD undef = .agg (dgA bl) := hc 8 44 rfl rfl
            have hk := Lib.hid (fun vz wz (hvz : (DwPhi K w0 seed p mm bl w) vz wz) => hK vz wz hvz)
            clear hK hu hc
            have hr1 := (hh.out.step hb).row
            have hr2 := (hh.out.step hb).eq
            have hcz := dgA_cells bl
            go_simp
            exact hk.out undef _ ⟨(hh.out.step hb).setD (fun _ _ => hbe.out), (hKw.out.trans (KbG.of hb)).setRow _⟩
          · rw [if_neg (by decide), if_neg (by decide), if_neg (by rw [show pathB _ _ _ _ = false from by kernel_rfl]; decide)]
            refine pure_of rfl rfl fun a ω κ hu hc hK => ?_
            have h37 : a.tmps[37]?.getD undef = .pointer (some ⟨w0.heap.size, 0, none⟩) := hc 1 37 rfl rfl
            have hk := Lib.hid hK
            clear hK hu hc
            go_simp
            exact hk.out
          · rw [if_neg (by decide), if_neg (by decide), if_neg (by rw [show pathB _ _ _ _ = false from by kernel_rfl]; decide)]
            refine pure_of rfl rfl fun a ω κ hu hc hK => ?_
            have h47 : a.tmps[47]?.getD undef = .pointer (some ⟨w0.heap.size, 0, none⟩) := hc 12 47 rfl rfl
            have hk := Lib.hid hK
            clear hK hu hc
            go_simp
            exact hk.out
          · rw [if_neg (by decide), if_pos rfl]
            refine end_of rfl fun aa ω hu hsz hdf hc hf => ?_
            have h36 : aa.tmps[36]?.getD undef = .pointer (some ⟨w0.heap.size, 0, none⟩) := hc 0 36 _ (by decide) rfl rfl
            have h37 : aa.tmps[37]?.getD undef = .pointer (some ⟨w0.heap.size, 0, none⟩) := hc 1 37 _ (by decide) rfl rfl
            have h38 : aa.tmps[38]?.getD undef = .pointer (some ⟨w0.heap.size, 0, none⟩) := hc 2 38 _ (by decide) rfl rfl
            have h39 : aa.tmps[39]?.getD undef = .pointer (some ⟨w0.heap.size, 0, none⟩) := hc 3 39 _ (by decide) rfl rfl
            have h40 : aa.tmps[40]?.getD undef = .pointer (some ⟨w0.heap.size, 0, none⟩) := hc 4 40 _ (by decide) rfl rfl
            have h41 : aa.tmps[41]?.getD undef = .agg (macA K (keyL K seed) []) := hc 5 41 _ (by decide) rfl rfl
            have h42 : aa.tmps[42]?.getD undef = .slice (some ⟨w.heap.size, 0, none⟩) 8 8 := hc 6 42 _ (by decide) rfl rfl
            have h43 : aa.tmps[43]?.getD undef = .agg (macA K (keyL K seed) (be8 q)) := hc 7 43 _ (by decide) rfl rfl
            have h44 : aa.tmps[44]?.getD undef = .agg (dgA bl) := hc 8 44 _ (by decide) rfl rfl
            have h45 : aa.tmps[45]?.getD undef = .pointer (some ⟨w0.heap.size, 0, none⟩) := hc 9 45 _ (by decide) rfl rfl
            have h46 : aa.tmps[46]?.getD undef = .pointer (some ⟨w0.heap.size, 147, none⟩) := hc 10 46 _ (by decide) rfl rfl
            have h47 : aa.tmps[47]?.getD undef = .pointer (some ⟨w0.heap.size, 0, none⟩) := hc 12 47 _ (by decide) rfl rfl
            have h48 : aa.tmps[48]?.getD undef = .pointer (some ⟨w0.heap.size, 179, none⟩) := hc 13 48 _ (by decide) rfl rfl
            obtain ⟨vz, hF, -⟩ := hf
            have hHz := Lib.hid (And.intro hu (And.intro hsz hdf))
            clear hc hu hsz hdf hz0
            obtain ⟨hS8, hK8⟩ := hF
            have cM := hS8.cM
            have fM := hS8.row.frozen 179
            have hS9 := Lib.hid (hS8.setM true (fun _ _ => hbe.out))
            have hK9 := Lib.hid (hK8.setCell (i := 179) (.bool true))
            clear hS8 hK8
            go_simp
            have ha0 := hha0.out
            subst ha0
            have he := act_patchT (n := 67) 14 [false, false, false, false, false, false, false, false, false, false, false, false, false, false, false, false, false, false, false, false, false, false, false, false, false, false, false, false, false, false, false, false, false, false, false, false, true, true, true, true, true, true, true, true, true, true, true, true, true, false, false, false, false, false, false, false, false, false, false, false, false, false, false, false, false, false, false] rfl (by kernel_rfl) hHz.out.1 hHz.out.2.1 hHz.out.2.2
            simp only [patch, cond_true, cond_false, Nat.reduceAdd] at he
            clear hHz hha0 e0 e3
            rw [he]
            clear he
            generalize aa.tmps[36]?.getD undef = x36 at *
            generalize aa.tmps[37]?.getD undef = x37 at *
            generalize aa.tmps[38]?.getD undef = x38 at *
            generalize aa.tmps[39]?.getD undef = x39 at *
            generalize aa.tmps[40]?.getD undef = x40 at *
            generalize aa.tmps[41]?.getD undef = x41 at *
            generalize aa.tmps[42]?.getD undef = x42 at *
            generalize aa.tmps[43]?.getD undef = x43 at *
            generalize aa.tmps[44]?.getD undef = x44 at *
            generalize aa.tmps[45]?.getD undef = x45 at *
            generalize aa.tmps[46]?.getD undef = x46 at *
            generalize aa.tmps[47]?.getD undef = x47 at *
            generalize aa.tmps[48]?.getD undef = x48 at *
            have hh := hS9
            have hKb := hK9
            have hdb := hbe
            clear hS9 hK9 cM fM kW kS hKw hbs hTr hB hL
            generalize ω.setCell _ _ = W9 at *
            have hrem := hremh.out
            have c0 := hh.out.cP
            have cB := hh.out.cB hrh.out
            have hri : (r : Int) < 32 := by have := hrh.out; omega
            have hri0 : (0 : Int) ≤ (r : Int) := by omega
            have hwr : IntKind.u64.wrap ((p : Int) + 1) = ((plc p 1 : Nat) : Int) := by rw [IntKind.wrap_u64]; unfold plc; omega
            have fP := hh.out.row.frozen 146
            have hN := Lib.hid ((hh.out.step (Below.refl _ _).drew).setP (plc_lt p 1) (src_inv hdb.out hpl))
            have hK2 := Lib.hid ((hKb.out.trans (KbG.of (Below.refl _ _).drew)).setCell (i := 146) (.int .u64 (plc p 1 : Nat)))
            have hval := Lib.hid (show dwB K seed p = bytesF bl r by unfold dwB; rw [← hdb.out, hre.out.1])
            go_upto_region 9 with (fail)
            go_region
            go_wp2_with fail
            go_ret
            exact ⟨by rw [hval.out] <;> rfl, ⟨_, hN.out⟩, hK2.out⟩
        · have d1 : decide ((k : Int) < 8) = true := by simp; omega
          have hkl : k < 8 := by omega
          have hki : (k : Int) < 8 := by omega
          have hk0 : (0 : Int) ≤ (k : Int) := by omega
          have c0 := hh.out.cP
          have cb := hB.out.cell hkl
          have fb := hB.out.row.frozen k
          have w1 : IntKind.i64.wrap (8 * (k : Int)) = 8 * (k : Int) := by rw [IntKind.wrap_i64]; omega
          have wq : IntKind.u64.wrap (q : Int) = (q : Int) := by rw [IntKind.wrap_u64]; have := hqh.out; omega
          have hv : (q : Int) / 2 ^ (56 - 8 * k) % 256 = ((q / 2 ^ (56 - 8 * k) % 256 : Nat) : Int) := by push_cast; rfl
          have hB2 := Lib.hid (show At (wr.setCell ⟨w.heap.size, k, none⟩ (.int .u8 ((q : Int) / 2 ^ (56 - 8 * k) % 256))) w.heap.size .u8 8 (b8F q (k + 1)) from by rw [hv]; exact (hB.out.set k (q / 2 ^ (56 - 8 * k) % 256)).congr (b8F_succ q k))
          have hh2 := Lib.hid (hh.out.farC (g := w.heap.size) (i := k) (v := .int .u8 ((q : Int) / 2 ^ (56 - 8 * k) % 256)) hlt.out)
          have hL2 := Lib.hid (hL.out.setCell (p := ⟨w.heap.size, k, none⟩) (Nat.le_refl _) (.int .u8 ((q : Int) / 2 ^ (56 - 8 * k) % 256)))
          clear hv
          clear hB hh hL
          have w2 : IntKind.i64.wrap (56 - 8 * (k : Int)) = 56 - 8 * (k : Int) := by rw [IntKind.wrap_i64]; omega
          go_wp2_with fail
          refine ⟨⟨k + 1, by go_num, hkl, ?_, ?_, ?_⟩, ?_⟩
          all_goals first | exact hB2 | exact hh2 | exact hL2 | (simp [intOf]; omega)
  · have hr0 : ((r : Int) == 0) = false := by simp; intro e; exact hrec (.inl e)
    have hmt : m = true := by
      cases m
      · exact absurd (.inr rfl) hrec
      · rfl
    subst hmt
    have hdb := Lib.hid (show d = blkL K seed p from hh.out.inv rfl (by rw [hre.out.1]; exact fun e => hrec (.inl e)))
    have hKb := Lib.hid (KbG.refl w0.heap.size w)
    clear hrec
    have hrem := hremh.out
    have c0 := hh.out.cP
    have cB := hh.out.cB hrh.out
    have hri : (r : Int) < 32 := by have := hrh.out; omega
    have hri0 : (0 : Int) ≤ (r : Int) := by omega
    have hwr : IntKind.u64.wrap ((p : Int) + 1) = ((plc p 1 : Nat) : Int) := by rw [IntKind.wrap_u64]; unfold plc; omega
    have fP := hh.out.row.frozen 146
    have hN := Lib.hid ((hh.out.step (Below.refl _ _).drew).setP (plc_lt p 1) (src_inv hdb.out hpl))
    have hK2 := Lib.hid ((hKb.out.trans (KbG.of (Below.refl _ _).drew)).setCell (i := 146) (.int .u64 (plc p 1 : Nat)))
    have hval := Lib.hid (show dwB K seed p = bytesF d r by unfold dwB; rw [← hdb.out, hre.out.1])
    go_upto_region 9 with (fail)
    go_region
    go_wp2_with fail
    go_ret
    exact ⟨by rw [hval.out] <;> rfl, ⟨_, hN.out⟩, hK2.out⟩
end Go.Proofs.YtdlmamnnamlleaaDoor
namespace Go.Proofs.YtdlmamnnamlleaaDoor
open Go Go.RowKit

/-- b over f, from o on, n places. -/
def cpF (f : Nat → Nat) (o n : Nat) (b : Nat → Nat) : Nat → Nat := fun p => if o ≤ p ∧ p < o + n then b (p - o) else f p
theorem putAt_arrK {k : IntKind} {N n : Nat} {b : Nat → Nat} : ∀ (m : Nat) (o s : Nat) (f : Nat → Nat), putAt (arrK k N f) o ((List.range' s m).map fun j => Value.int k (b j : Nat)) = arrK k N fun p => if o ≤ p ∧ p < o + m then b (p - o + s) else f p
  | 0, o, s, f => by
    show arrK k N f = _
    refine arrK_congr fun p _ => ?_
    rw [if_neg (by omega)]
  | m + 1, o, s, f => by
    rw [List.range'_succ, List.map_cons, putAt, arrK_set, putAt_arrK (n := n) m (o + 1) (s + 1)]
    refine arrK_congr fun p _ => ?_
    unfold upd
    by_cases h : o + 1 ≤ p ∧ p < o + 1 + m
    · rw [if_pos h, if_pos (by omega), show p - (o + 1) + (s + 1) = p - o + s by omega]
    · rw [if_neg h]
      by_cases h2 : p = o
      · subst h2
        rw [if_pos rfl, if_pos (by omega)]
        congr 1; omega
      · rw [if_neg h2, if_neg (by omega)]
theorem putAt_cpF {N n o : Nat} {f b : Nat → Nat} {k : IntKind} : putAt (arrK k N f) o ((List.range' 0 n).map fun j => Value.int k (b j : Nat)) = arrK k N (cpF f o n b) := by
  rw [putAt_arrK (n := 0)]
  rfl
theorem rng_at {n : Nat} {k : IntKind} {b : Nat → Nat} {j : Nat} {v : Value} (h : ((List.range' 0 n).map fun j => Value.int k (b j : Nat))[j]? = some v) : j < n ∧ v = .int k (b j : Nat) := by
  by_cases hj : j < n
  · rw [List.getElem?_map, List.getElem?_range' hj] at h
    simp only [Option.map_some, Option.some.injEq] at h
    exact ⟨hj, by rw [← h]; simp⟩
  · rw [List.getElem?_eq_none (by simp; omega)] at h
    cases h
section
variable {P : Program} {w : World} {g N : Nat} {f b : Nat → Nat} {k : IntKind} {e : TypeId}
theorem At.setCells (T : At w g k N f) (o n : Nat) : w.setCells g o ((List.range' 0 n).map fun j => Value.int k (b j : Nat)) = w.setRow g (arrK k N (cpF f o n b)) := by
  rw [setCells_row _ _ T.row, T.eq, putAt_cpF]
theorem At.has (T : At w g k N f) {i : Nat} (hi : i < N) : (w.cell? ⟨g, i, none⟩).isSome = true := by rw [T.cell hi]; rfl
theorem At.cp (T : At w g k N f) (o n : Nat) (b : Nat → Nat) : At (w.setRow g (arrK k N (cpF f o n b))) g k N (cpF f o n b) := At.put T.row
theorem run_copy_buf {dT sT ty : TypeId} (hu : P.underlying dT = some (.slice e)) (hs : (P.info? e).map (·.size) = some 1) (T : At w g k N f) {o n dl dc sl sc : Nat} {ad : Addr}
    (hb : ∀ j < n, w.cell? (ad.add j) = some (.int k (b j : Nat))) (hn : n = Nat.min sl dl) (ho : o + n ≤ N) :
    (Builtin.copy_ #[dT, sT] ty #[.slice (some ⟨g, o, none⟩) dl dc, .slice (some ad) sl sc]).run P w = .ok (.int .i64 (n : Nat)) (w.setRow g (arrK k N (cpF f o n b))) := by
  have h := run_copy_cells (P := P) w dT sT ty e g o dl dc ad sl sc ((List.range' 0 n).map fun j => Value.int k (b j : Nat)) hu hs (by simpa using hn)
    (fun j v hj => by obtain ⟨h1, h2⟩ := rng_at hj; rw [h2]; exact hb j h1) (fun j hj => T.has (by simp at hj; omega)) (fun j hj => T.row.frozen _)
    (fun v hv => by obtain ⟨j, -, rfl⟩ := List.mem_map.1 hv; rfl)
  rw [h, T.setCells]
  simp [goInt]
theorem run_app_buf {t ty : TypeId} {bytes : Nat} (S : SlT P t e 1 bytes) (T : At w g k N f) {n m c : Nat} {ad : Addr} (hb : ∀ j < m, w.cell? (ad.add j) = some (.int k (b j : Nat))) (hroom : n + m ≤ N) :
    (Builtin.append_ #[t, t] ty #[.slice (some ⟨g, 0, none⟩) n N, .slice (some ad) m c]).run P w = .ok (.slice (some ⟨g, 0, none⟩) (n + m) N) (w.setRow g (arrK k N (cpF f n m b))) := by
  obtain ⟨i, z, hi, -, hs, -⟩ := S.info
  have h := run_append_room_cells (P := P) w t ty e i S.under hi g 0 n N ad m c ((List.range' 0 m).map fun j => Value.int k (b j : Nat)) (by simp [hs])
    (fun j v hj => by obtain ⟨h1, h2⟩ := rng_at hj; rw [h2]; exact hb j h1) (fun v hv => by obtain ⟨j, -, rfl⟩ := List.mem_map.1 hv; rfl) hroom
    (fun j hj => by simp only [hs, Nat.zero_add, Nat.mul_one]; exact T.has (by simp at hj; omega)) (fun j hj => by simp only [hs, Nat.zero_add, Nat.mul_one]; exact T.row.frozen _)
  rw [h]
  simp only [hs, Nat.zero_add, Nat.mul_one]
  rw [T.setCells]
theorem run_app_none {t ty : TypeId} {bytes : Nat} (S : SlT P t e 1 bytes) {n c : Nat} (hA : n ≤ N) :
    (Builtin.append_ #[t, t] ty #[.slice (some ⟨g, 0, none⟩) n N, .slice none 0 c]).run P w = .ok (.slice (some ⟨g, 0, none⟩) n N) w := by
  obtain ⟨i, z, hi, -⟩ := S.info
  simp [Builtin.append_, run_underlying S.under, sizeOf, typeInfo, hi, Builtin.lenOf, Builtin.firstCells, hA, storeCells]
theorem wpList_appR {ops : Array Oper} {rest : List Oper} {o : Oper} {a : Act} {Q : Exit → Act → World → Prop} (hgd : o.guard = none) (s x : Operand) (t u : TypeId)
    (ho : o.op = .call { callee := .builtin .append, args := #[s, x], argTypes := #[t, u] }) {v1 v2 v : Value} {w' : World} (h1 : a.eval s = v1) (h2 : a.eval x = v2) (hrun : (Builtin.append_ #[t, u] o.type #[v1, v2]).run P w = .ok v w')
    (h : wpList P ops Q rest (a.put o.dst v) w') : wpList P ops Q (o :: rest) a w :=
  wpList_plain hgd fun _ hK => by
    unfold Oper.wp execOp
    simp only [ho, resolve, invoke, builtin, Sem.run_bind, Sem.run_pure, Result.andThen_ok, List.map_toArray, List.map_cons, List.map_nil, h1, h2, hrun]
    exact hK _ _ h
theorem wpList_copyR {ops : Array Oper} {rest : List Oper} {o : Oper} {a : Act} {Q : Exit → Act → World → Prop} (hgd : o.guard = none) (s x : Operand) (t u : TypeId)
    (ho : o.op = .call { callee := .builtin .copy, args := #[s, x], argTypes := #[t, u] }) {v1 v2 v : Value} {w' : World} (h1 : a.eval s = v1) (h2 : a.eval x = v2) (hrun : (Builtin.copy_ #[t, u] o.type #[v1, v2]).run P w = .ok v w')
    (h : wpList P ops Q rest (a.put o.dst v) w') : wpList P ops Q (o :: rest) a w :=
  wpList_plain hgd fun _ hK => by
    unfold Oper.wp execOp
    simp only [ho, resolve, invoke, builtin, Sem.run_bind, Sem.run_pure, Result.andThen_ok, List.map_toArray, List.map_cons, List.map_nil, h1, h2, hrun]
    exact hK _ _ h
end
/-- A slice of M bytes, those of f. -/
def BytesOk (f : Nat → Nat) (M : Nat) (w : World) (e : Ending) (w' : World) : Prop := ∃ g, e = .returned (.slice (some ⟨g, 0, none⟩) M M) ∧ At w' g .u8 M f ∧ Below w.heap.size w w'
def bLs (f : Nat → Nat) (n : Nat) : List UInt8 := (List.range n).map fun i => UInt8.ofNat (f i)
theorem bLs_len (f : Nat → Nat) (n : Nat) : (bLs f n).length = n := by simp [bLs]
theorem bLs_congr {f g : Nat → Nat} {n : Nat} (h : ∀ i < n, f i = g i) : bLs f n = bLs g n := by
  unfold bLs
  refine List.map_congr_left fun i hi => ?_
  rw [h i (by simpa using hi)]
theorem bLs_succ (f : Nat → Nat) (n : Nat) : bLs f (n + 1) = bLs f n ++ [UInt8.ofNat (f n)] := by simp [bLs, List.range_succ]
theorem bLs_add (f : Nat → Nat) (n m : Nat) : bLs f (n + m) = bLs f n ++ bLs (fun i => f (n + i)) m := by
  induction m with
  | zero => simp [bLs]
  | succ m ih => rw [← Nat.add_assoc, bLs_succ, ih, bLs_succ, List.append_assoc]
theorem bytesV_bLs {f : Nat → Nat} {n : Nat} (hf : ∀ i < n, f i < 256) : bytesV (bLs f n) = (arrK .u8 n f).toList := by
  refine List.ext_getElem? fun p => ?_
  by_cases hp : p < n
  · rw [Array.getElem?_toList (xs := arrK .u8 n f), arrK_at hp]
    have := hf p hp
    simp [bytesV, bLs, u8v, hp]
    omega
  · rw [Array.getElem?_toList (xs := arrK .u8 n f), Array.getElem?_eq_none (by rw [arrK_size]; omega), List.getElem?_eq_none (by rw [bytesV_length, bLs_len]; omega)]
theorem At.rdB {w : World} {g N n : Nat} {f : Nat → Nat} (T : At w g .u8 N f) (hn : n ≤ N) (hf : ∀ i < n, f i < 256) : Rd w (g + 1) (some ⟨g, 0, none⟩) (bytesV (bLs f n)) := fun j u hu => by
  rw [bytesV_bLs hf, Array.getElem?_toList] at hu
  have hj : j < n := by have := (Array.getElem?_eq_some_iff.1 hu).1; simpa [arrK_size] using this
  rw [arrK_at hj] at hu
  refine ⟨_, rfl, by simp, ?_⟩
  rw [show (Addr.mk g 0 none).add j = ⟨g, j, none⟩ by unfold Addr.add; split <;> simp_all, T.cell (by omega), ← hu]
theorem run_make_buf {P : Program} {t e : TypeId} (ht : P.underlying t = some (.slice e)) (hinfo : (P.info? e).map (fun i => (i.zero, i.size, i.bytes)) = some (some (.int .u8 0), 1, 1)) (kl kc : IntKind) {n M : Nat} (hn : n ≤ M) (hM : M ≤ 281474976710656) (w : World) :
    (Instr.makeSlice t (.int kl (n : Int)) (.int kc (M : Int))).run P w = .ok (.slice (some ⟨w.heap.size, 0, none⟩) n M) (w.alloc (.cells (arrK .u8 M fun _ => 0) e)) := by
  obtain ⟨i, hi, hzz⟩ := Option.map_eq_some_iff.1 hinfo
  simp only [Prod.mk.injEq] at hzz
  obtain ⟨hz, hs, hb⟩ := hzz
  have hr := run_make (P := P) w t e i (.int .u8 0) ht hi hz kl kc n M (by omega) (by omega) (by rw [hb]; omega) (by omega)
  simp only [Int.toNat_natCast, hs, Nat.mul_one] at hr
  rw [hr, ← made_arrK]
  rfl
theorem run_app_bytes {P : Program} {w : World} {g N : Nat} {f : Nat → Nat} {t ty e : TypeId} {bytes : Nat} (S : SlT P t e 1 bytes) (T : At w g .u8 N f) {B n c : Nat} {A : Option Addr} {l : List UInt8} (hA : Rd w B A (bytesV l)) (hroom : n + l.length ≤ N) :
    (Builtin.append_ #[t, t] ty #[.slice (some ⟨g, 0, none⟩) n N, .slice A l.length c]).run P w = .ok (.slice (some ⟨g, 0, none⟩) (n + l.length) N) (w.setRow g (arrK .u8 N (cpF f n l.length fun p => (l[p]?.getD 0).toNat))) := by
  cases A with
  | none =>
    have hl : l = [] := by
      cases l with
      | nil => rfl
      | cons x r => obtain ⟨ad, h, -⟩ := hA 0 (u8v x) rfl; cases h
    subst hl
    obtain ⟨cs, t', hg, -⟩ := T.row
    have e : cs = arrK .u8 N f := by rw [← T.eq]; simp [rowAt, hg]
    rw [show cpF f n ([] : List UInt8).length (fun p => (([] : List UInt8)[p]?.getD 0).toNat) = f by funext p; unfold cpF; rw [if_neg (by intro h; simp at h; omega)], ← e, setRow_self w g cs t' (0, 0) hg]
    exact run_app_none S (by simpa using hroom)
  | some ad =>
    refine run_app_buf S T (fun j hj => ?_) hroom
    exact hA.all (by simp [bytesV, u8v, hj])
theorem run_copy_bytes {P : Program} {w : World} {g N : Nat} {f : Nat → Nat} {e dT sT ty : TypeId} (hu : P.underlying dT = some (.slice e)) (hs : (P.info? e).map (·.size) = some 1) (T : At w g .u8 N f) {B n o dl dc sc : Nat} {A : Option Addr} {l : List UInt8} (hA : Rd w B A (bytesV l))
    (hn : n = Nat.min l.length dl) (hn0 : 0 < n) (ho : o + n ≤ N) :
    (Builtin.copy_ #[dT, sT] ty #[.slice (some ⟨g, o, none⟩) dl dc, .slice A l.length sc]).run P w = .ok (.int .i64 (n : Nat)) (w.setRow g (arrK .u8 N (cpF f o n fun p => (l[p]?.getD 0).toNat))) := by
  have hnl : n ≤ l.length := by rw [hn]; exact Nat.min_le_left _ _
  obtain ⟨ad, rfl, -, -⟩ := hA.at_ (k := 0) (by rw [bytesV_length]; omega)
  refine run_copy_buf hu hs T (fun j hj => ?_) hn ho
  exact hA.all (by rw [bytesV, List.getElem?_map, List.getElem?_eq_getElem (by omega)]; simp [u8v])
theorem bLs_byteAt (l : List UInt8) : bLs (fun p => (l[p]?.getD 0).toNat) l.length = l := by
  apply List.ext_getElem
  · exact bLs_len _ _
  · intro i h1 h2
    simp [bLs, h2]
theorem add0 (g j : Nat) (o : Nat) : (Addr.mk g o none).add j = ⟨g, o + j, none⟩ := by unfold Addr.add; split <;> simp_all
end Go.Proofs.YtdlmamnnamlleaaDoor
namespace Go.Proofs.YtdlmamnnamlleaaDoor
open Go.ChangeShapes Go.WideShapes Go.ChangeAt Go.RowKit
set_option maxHeartbeats 2000000
set_option maxRecDepth 100000
attribute [local irreducible] arrV dgA sha macA macZ srcB
attribute [local go_sem] isHead_mk isPart_mk offOf_mk blkOf_mk isAgg_mk cellsV_mk row_drew rowAt_drew row_new_cells row_old rowAt_new rowAt_old setRow_new zeroD
theorem At.kb {w w' : World} {g g0 m : Nat} {k : IntKind} {f : Nat → Nat} (h : At w g k m f) (hk : KbG g0 w w') (hne : g ≠ g0) : At w' g k m f := ⟨(hk.row h.row hne).1, (hk.row h.row hne).2.trans h.eq⟩
/-- A source at a place. -/
def Src (K : Nat → W32) (w0 : World) (seed : List UInt8) (p : Nat) (W : World) : Prop := ∃ m d, SrcAt K w0 seed p m d W
theorem Src.step {K : Nat → W32} {w0 W W' : World} {seed : List UInt8} {p : Nat} (h : Src K w0 seed p W) (hb : Below W.heap.size W W') : Src K w0 seed p W' := by
  obtain ⟨m, d, h⟩ := h; exact ⟨m, d, h.step hb⟩
theorem Src.farC {K : Nat → W32} {w0 W : World} {seed : List UInt8} {p g i : Nat} {v : Value} (h : Src K w0 seed p W) (hg : w0.heap.size < g) : Src K w0 seed p (W.setCell ⟨g, i, none⟩ v) := by
  obtain ⟨m, d, h⟩ := h; exact ⟨m, d, h.farC hg⟩
theorem Src.far {K : Nat → W32} {w0 W : World} {seed : List UInt8} {p g : Nat} {c : Array Value} (h : Src K w0 seed p W) (hg : w0.heap.size < g) : Src K w0 seed p (W.setRow g c) := by
  obtain ⟨m, d, h⟩ := h; exact ⟨m, d, h.far hg⟩
theorem Src.lt {K : Nat → W32} {w0 W : World} {seed : List UInt8} {p : Nat} (h : Src K w0 seed p W) : w0.heap.size < W.heap.size := by
  obtain ⟨m, d, h⟩ := h; exact h.row.lt
theorem Src.bel {K : Nat → W32} {w0 W : World} {seed : List UInt8} {p : Nat} (h : Src K w0 seed p W) : Below w0.heap.size w0 W := by
  obtain ⟨m, d, h⟩ := h; exact h.bel
theorem Src.pl {K : Nat → W32} {w0 W : World} {seed : List UInt8} {p : Nat} (h : Src K w0 seed p W) : p < 18446744073709551616 := by
  obtain ⟨m, d, h⟩ := h; exact h.pl
theorem plc_zero {p : Nat} (h : p < 18446744073709551616) : plc p 0 = p := by unfold plc; omega
theorem next_c (K : Nat → W32) (w0 : World) (seed : List UInt8) (p : Nat) (w : World) (h : Src K w0 seed p w) (hT : Tabs K w0) :
    Calls Tryd.prog 35 #[.pointer (some ⟨w0.heap.size, 0, none⟩)] w fun e w' => e = .returned (.int .u8 (dwB K seed p : Nat)) ∧ Src K w0 seed (plc p 1) w' ∧ KbG w0.heap.size w w' := by
  obtain ⟨m, d, h⟩ := h
  exact (src_next K w0 seed p m d w h hT).mono fun e w' ⟨h1, ⟨d', h2⟩, h3⟩ => ⟨h1, ⟨true, d', h2⟩, h3⟩
/-- The first k of the bytes from a place on. -/
def dwF (K : Nat → W32) (seed : List UInt8) (p k : Nat) : Nat → Nat := fun i => if i < k then dwB K seed (plc p i) else 0
theorem dwF_succ (K : Nat → W32) (seed : List UInt8) (p k N : Nat) : ∀ i < N, upd (dwF K seed p k) k (dwB K seed (plc p k)) i = dwF K seed p (k + 1) i := fun i _ => by
  unfold upd dwF
  by_cases h : i = k
  · subst h; rw [if_pos rfl, if_pos (by omega)]
  · rw [if_neg h]
    by_cases h2 : i < k
    · rw [if_pos h2, if_pos (by omega)]
    · rw [if_neg h2, if_neg (by omega)]
def BytR (K : Nat → W32) (w0 : World) (seed : List UInt8) (p N : Nat) (w : World) (e : Ending) (w' : World) : Prop :=
  ∃ gb, e = .returned (.tuple #[.slice (some ⟨gb, 0, none⟩) N N, .int .i64 0]) ∧ At w' gb .u8 N (dwF K seed p N) ∧ Src K w0 seed (plc p N) w' ∧ KbG w0.heap.size w w'
theorem src_BytesBad (w0 : World) (n : Int) (w : World) (hf : fitE n ≠ 0) :
    Calls Tryd.prog 17 #[.pointer (some ⟨w0.heap.size, 0, none⟩), .int .i64 n] w fun e w' => e = .returned (.tuple #[.slice none 0 0, .int .i64 (fitE n)]) ∧ w = w' := by
  have kF := Lib.hid (draw_fits n w)
  obtain ⟨z, hz⟩ : ∃ z, fitE n = z := ⟨_, rfl⟩
  rw [hz] at kF hf ⊢
  have hz1 : (z != 0) = true := by simpa using hf
  clear hz hf
  go_enter Tryd.func17, Tryd.ntmps17
  go_upto_region 1 with (fail)
  go_wp2_with fail
  refine kF.out.mono ?_
  rintro e w1 ⟨rfl, rfl⟩
  clear kF
  go_wp2_with fail
  go_ret2
  exact ⟨rfl, rfl⟩
theorem src_Bytes (K : Nat → W32) (w0 : World) (seed : List UInt8) (p N : Nat) (w : World) (h : Src K w0 seed p w) (hT : Tabs K w0) (hN : N ≤ 4096) :
    Calls Tryd.prog 17 #[.pointer (some ⟨w0.heap.size, 0, none⟩), .int .i64 (N : Nat)] w (BytR K w0 seed p N w) := by
  have kF0 := draw_fits (N : Int) w
  rw [show fitE (N : Int) = 0 by unfold fitE; rw [if_neg (by omega), if_neg (by omega)]] at kF0
  have kF := Lib.hid kF0
  have hm := fun V => run_make_buf (P := Tryd.prog) (t := 22) Tryd.underlying22 (by kernel_rfl) .i64 .i64 (Nat.le_refl N) (by omega) V
  have hh := Lib.hid h
  have hTh := Lib.hid hT
  clear h hT kF0
  go_enter Tryd.func17, Tryd.ntmps17
  go_upto_region 1 with (fail)
  go_wp2_with fail
  refine kF.out.mono ?_
  rintro e w1 ⟨rfl, rfl⟩
  clear kF
  go_upto_region 6 with (fail)
  have hL := Lib.hid (below_alloc w (Obj.cells (arrK .u8 N fun _ => 0) 5))
  have hB := Lib.hid (show At (w.alloc (Obj.cells (arrK .u8 N fun _ => 0) 5)) w.heap.size .u8 N (dwF K seed p 0) from At.new _ rfl)
  have hlt := Lib.hid hh.out.lt
  have hpl := Lib.hid hh.out.pl
  replace hh := Lib.hid (hh.out.step hL.out)
  have hK := Lib.hid (KbG.of (g := w0.heap.size) hL.out)
  clear hm hL
  generalize w.alloc _ = W1 at *
  go_loopw [18] (fun iv wr => ∃ k : Nat, iv = .int .i64 k ∧ k ≤ N ∧ Hid (At wr w.heap.size .u8 N (dwF K seed p k)) ∧ Hid (Src K w0 seed (plc p k) wr) ∧ Hid (KbG w0.heap.size w wr)) (fun iv _ => N - (intOf iv).toNat)
  case atStart => exact ⟨0, rfl, Nat.zero_le _, hB, by rw [plc_zero hpl.out]; exact hh, hK⟩
  case round =>
    clear hB hh hK
    obtain ⟨k, rfl, hk, hB, hh, hK⟩ := hrel
    by_cases hkN : k = N
    · subst hkN
      have d1 : decide ((k : Int) < (k : Int)) = false := by simp
      go_wp2_with fail
      go_ret2
      exact ⟨_, rfl, hB.out, hh.out, hK.out⟩
    · have d1 : decide ((k : Int) < (N : Int)) = true := by simp; omega
      have hkl : k < N := by omega
      have hki : (k : Int) < (N : Int) := by omega
      have hk0 : (0 : Int) ≤ (k : Int) := by omega
      have kN := Lib.hid (next_c K w0 seed (plc p k) wr hh.out hTh.out)
      go_upto_region 8 with (fail)
      go_wp2_with fail
      refine kN.out.mono ?_
      rintro e w1 ⟨rfl, hS1, hK1⟩
      have hne : w.heap.size ≠ w0.heap.size := by have := hlt.out; omega
      have hB1 := hB.out.kb hK1 hne
      have cb := hB1.cell hkl
      have fb := hB1.row.frozen k
      rw [plc_plc] at hS1
      obtain ⟨bv, hbv⟩ : ∃ b, dwB K seed (plc p k) = b := ⟨_, rfl⟩
      have hB2 := Lib.hid ((hB1.set k bv).congr (f' := dwF K seed p (k + 1)) (by rw [← hbv]; exact dwF_succ K seed p k N))
      have hS2 := Lib.hid (hS1.farC (g := w.heap.size) (i := k) (v := .int .u8 (bv : Nat)) hlt.out)
      have hK2 := Lib.hid (show KbG w0.heap.size w (w1.setCell ⟨w.heap.size, k, none⟩ (.int .u8 (bv : Nat))) from ⟨by have := (hK.out.trans hK1).size; simpa using this, fun j hj hg => (Below.heap_setCell w1 _ _ j (by simp; omega)).trans ((hK.out.trans hK1).block j hj hg)⟩)
      rw [hbv]
      clear hB hh hK kN hS1 hK1 hB1 hbv hne
      go_wp2_with fail
      refine ⟨⟨k + 1, by go_num, hkl, hB2, hS2, hK2⟩, ?_⟩
      simp [intOf]; omega
theorem src_SkipBad (w0 : World) (n : Int) (w : World) (hf : fitE n ≠ 0) :
    Calls Tryd.prog 16 #[.pointer (some ⟨w0.heap.size, 0, none⟩), .int .i64 n] w fun e w' => e = .returned (.int .i64 (fitE n)) ∧ w = w' := by
  have kF := Lib.hid (draw_fits n w)
  obtain ⟨z, hz⟩ : ∃ z, fitE n = z := ⟨_, rfl⟩
  rw [hz] at kF hf ⊢
  have hz1 : (z != 0) = true := by simpa using hf
  clear hz hf
  go_enter Tryd.func16, Tryd.ntmps16
  go_upto_region 1 with (fail)
  go_wp2_with fail
  refine kF.out.mono ?_
  rintro e w1 ⟨rfl, rfl⟩
  clear kF
  go_wp2_with fail
  go_ret
  exact ⟨rfl, rfl⟩
theorem src_Skip (K : Nat → W32) (w0 : World) (seed : List UInt8) (p N : Nat) (w : World) (h : Src K w0 seed p w) (hN : N ≤ 4096) :
    Calls Tryd.prog 16 #[.pointer (some ⟨w0.heap.size, 0, none⟩), .int .i64 (N : Nat)] w fun e w' => e = .returned (.int .i64 0) ∧ Src K w0 seed (plc p N) w' ∧ KbG w0.heap.size w w' := by
  have kF0 := draw_fits (N : Int) w
  rw [show fitE (N : Int) = 0 by unfold fitE; rw [if_neg (by omega), if_neg (by omega)]] at kF0
  have kF := Lib.hid kF0
  obtain ⟨m, d, h⟩ := h
  have c0 := h.cP
  have f0 := h.row.frozen 146
  have hpl := h.pl
  have hwn : IntKind.u64.wrap (N : Int) = (N : Int) := by rw [IntKind.wrap_u64]; omega
  have hwr : IntKind.u64.wrap ((p : Int) + (N : Int)) = ((plc p N : Nat) : Int) := by rw [IntKind.wrap_u64]; unfold plc; omega
  have h0 := h.setM false (fun e => by cases e)
  have h1 := h0.setP (plc_lt p N) (fun e => by cases e)
  have c1 : (w.setCell ⟨w0.heap.size, 146, none⟩ (.int .u64 (plc p N : Nat))).cell? ⟨w0.heap.size, 179, none⟩ = some (.bool m) := by
    rw [World.cell?_setCell_other _ _ _ _ (by simp)]; exact h.cM
  have f1 : (w.setCell ⟨w0.heap.size, 146, none⟩ (.int .u64 (plc p N : Nat))).frozen? ⟨w0.heap.size, 179, none⟩ = false := by rw [World.frozen?_setCell]; exact h.row.frozen 179
  have hfin := Lib.hid (show Src K w0 seed (plc p N) ((w.setCell ⟨w0.heap.size, 146, none⟩ (.int .u64 (plc p N : Nat))).setCell ⟨w0.heap.size, 179, none⟩ (.bool false)) ∧ KbG w0.heap.size w ((w.setCell ⟨w0.heap.size, 146, none⟩ (.int .u64 (plc p N : Nat))).setCell ⟨w0.heap.size, 179, none⟩ (.bool false)) from
    ⟨⟨false, d, ⟨row_setCell.2 (row_setCell.2 h.row), by rw [rowAt_setCell_same, rowAt_setCell_same, h.eq, srcB_set146, srcB_set179], plc_lt p N, fun e => (by cases e), (h.bel.setCell (Nat.le_refl _) _).setCell (Nat.le_refl _) _⟩⟩, ((KbG.refl _ w).setCell _).setCell _⟩)
  clear h h0 h1 kF0
  go_enter Tryd.func16, Tryd.ntmps16
  go_upto_region 1 with (fail)
  go_wp2_with fail
  refine kF.out.mono ?_
  rintro e w1 ⟨rfl, rfl⟩
  clear kF
  go_wp2_with fail
  go_ret
  exact ⟨rfl, hfin.out.1, hfin.out.2⟩
end Go.Proofs.YtdlmamnnamlleaaDoor
namespace Go.Proofs.YtdlmamnnamlleaaDoor
open Go.ChangeShapes Go.WideShapes Go.ChangeAt Go.RowKit
set_option maxHeartbeats 1000000
set_option maxRecDepth 100000
attribute [local go_sem ↓] load_num store_num execl_num execs_num load_wide store_wide execl_wide execs_wide load_b32 store_b32 execl_b32 execs_b32
attribute [local go_sem] isHead_mk blkOf_mk isAgg_mk cellsV_mk row_drew row_new_cells row_old rowAt_new rowAt_old

theorem wd_ge {n i : Nat} (h : n < 2 ^ (64 * i)) : wd n i = 0 := by unfold wd; rw [Nat.div_eq_of_lt h]
theorem wd_lo {a b i k : Nat} (hi : i < k) : wd (a + 2 ^ (64 * k) * b) i = wd a i := by
  unfold wd
  rw [show 64 * k = 64 * i + 64 + 64 * (k - i - 1) by omega, Nat.pow_add, Nat.pow_add, Nat.mul_assoc, Nat.mul_assoc, Nat.add_mul_div_left _ _ (Nat.pow_pos (by omega)), Nat.add_mul_mod_self_left]
theorem wd_hi {a b i k : Nat} (ha : a < 2 ^ (64 * k)) : wd (a + 2 ^ (64 * k) * b) (k + i) = wd b i := by
  unfold wd
  rw [show 64 * (k + i) = 64 * k + 64 * i by omega, Nat.pow_add, ← Nat.div_div_eq_div_mul, Nat.add_mul_div_left _ _ (Nat.pow_pos (by omega)), Nat.div_eq_of_lt ha, Nat.zero_add]

theorem wd_mod {n i : Nat} (h : i < 4) : wd n (0 + i) = wd (n % 2 ^ 256) i := by
  conv => lhs; rw [← Nat.mod_add_div n (2 ^ 256), Nat.zero_add]
  exact wd_lo (k := 4) h
theorem wd_div (n i : Nat) : wd n (4 + i) = wd (n / 2 ^ 256) i := by
  conv => lhs; rw [← Nat.mod_add_div n (2 ^ 256)]
  exact wd_hi (k := 4) (Nat.mod_lt _ (by decide))

/-! copy between two rows -/
def splice (c : Array Value) (o : Nat) (d : Array Value) (p n : Nat) : Array Value := (c.toList.take o ++ (d.toList.drop p).take n ++ c.toList.drop (o + n)).toArray
theorem splice_size {c d : Array Value} {o p n : Nat} (h1 : o + n ≤ c.size) (h2 : p + n ≤ d.size) : (splice c o d p n).size = c.size := by
  simp [splice]; omega
theorem splice_arrK {k : IntKind} {N M : Nat} {f g : Nat → Nat} {o p n : Nat} (h1 : o + n ≤ N) (h2 : p + n ≤ M) :
    splice (arrK k N f) o (arrK k M g) p n = arrK k N fun i => if o ≤ i ∧ i < o + n then g (p + (i - o)) else f i := by
  refine arrK_of (by rw [splice_size (by rw [arrK_size]; exact h1) (by rw [arrK_size]; exact h2), arrK_size]) fun i hi => ?_
  have hf := arrK_at (k := k) (f := f) hi
  rw [← Array.getElem?_toList] at hf
  unfold splice
  rw [List.getElem?_toArray, List.append_assoc]
  by_cases h3 : i < o
  · rw [List.getElem?_append_left (by simp [arrK_size]; omega), List.getElem?_take_of_lt h3, hf, if_neg (by omega)]
  · rw [List.getElem?_append_right (by simp [arrK_size]; omega)]
    have hlen : ((arrK k N f).toList.take o).length = o := by simp [arrK_size]; omega
    rw [hlen]
    by_cases h4 : i < o + n
    · rw [List.getElem?_append_left (by simp [arrK_size]; omega), List.getElem?_take_of_lt (by omega), List.getElem?_drop, Array.getElem?_toList, arrK_at (by omega), if_pos ⟨by omega, h4⟩]
    · have hl2 : (((arrK k M g).toList.drop p).take n).length = n := by simp [arrK_size]; omega
      rw [List.getElem?_append_right (by rw [hl2]; omega), hl2, List.getElem?_drop, show o + n + (i - o - n) = i by omega, hf, if_neg (by omega)]
theorem run_copy_rows {P : Program} {w : World} {dT sT ty elem : TypeId} {g o dLen dCap h q sLen sCap N M n : Nat}
    (hu : P.underlying dT = some (.slice elem)) (hs : (P.info? elem).map (·.size) = some 1) (hn : n = Nat.min sLen dLen) (h1 : o + n ≤ N) (h2 : q + n ≤ M) (hc : ∀ u ∈ (rowAt w h).toList, u.oneCell' = true)
    (hR : Row w g N) (hS : Row w h M) :
    (Builtin.copy_ #[dT, sT] ty #[.slice (some ⟨g, o, none⟩) dLen dCap, .slice (some ⟨h, q, none⟩) sLen sCap]).run P w = .ok (goInt n) (w.setRow g (splice (rowAt w g) o (rowAt w h) q n)) := by
  obtain ⟨cs, t, hg, hl⟩ := hR
  have e : rowAt w g = cs := by simp [rowAt, hg]
  have hsz := hS.size
  have hlen : (((rowAt w h).toList.drop q).take n).length = n := by simp; omega
  have := run_copy_row (P := P) w dT sT ty elem g o dLen dCap ⟨h, q, none⟩ sLen sCap cs t (((rowAt w h).toList.drop q).take n) hu hs hg (by rw [hlen]; exact hn) (fun j v hv => by
    rw [List.getElem?_take] at hv
    split at hv
    · rw [List.getElem?_drop, Array.getElem?_toList] at hv
      rw [show (⟨h, q, none⟩ : Addr).add j = ⟨h, q + j, none⟩ by unfold Addr.add; split <;> simp_all, hS.cell, hv]
    · cases hv) (by rw [hlen, hl]; omega) (fun v hv => hc v (List.mem_of_mem_drop (List.mem_of_mem_take hv)))
  rw [this, hlen, e]
  rfl

theorem Row.drew {w : World} {g n : Nat} (h : Row w g n) : Row w.drew g n := h
theorem zero8 : #[Value.int IntKind.u64 0, Value.int IntKind.u64 0, Value.int IntKind.u64 0, Value.int IntKind.u64 0, Value.int IntKind.u64 0, Value.int IntKind.u64 0, Value.int IntKind.u64 0, Value.int IntKind.u64 0] = arrK .u64 8 fun _ => 0 := arrK8 .u64 fun _ => 0
theorem goInt_4 : goInt ((4 : Nat) : Int) = .int .i64 4 := rfl

theorem limb_Wide (a b : Nat) (w : World) (ha : a < 2 ^ 256) :
    Calls Tryd.prog 109 #[numV a, numV b] w fun e w' => e = .returned (wideV (a + 2 ^ 256 * b)) ∧ Below w.heap.size w w' := by
  unfold numV
  have hca := arrK_cells .u64 4 (wd a)
  have hcb := arrK_cells .u64 4 (wd b)
  go_enter Tryd.func109, Tryd.ntmps109
  go_wp2
  rw [zero8]
  have hRa : Row ((((w.alloc (Obj.cells (arrK .u64 4 (wd a)) 41)).alloc (Obj.cells (arrK .u64 4 (wd b)) 41)).alloc (Obj.cells (arrK .u64 8 fun _ => 0) 154)).alloc (Obj.cells (arrK .u64 8 fun _ => 0) 154)) w.heap.size 4 := by go_simp
  have hra : rowAt ((((w.alloc (Obj.cells (arrK .u64 4 (wd a)) 41)).alloc (Obj.cells (arrK .u64 4 (wd b)) 41)).alloc (Obj.cells (arrK .u64 8 fun _ => 0) 154)).alloc (Obj.cells (arrK .u64 8 fun _ => 0) 154)) w.heap.size = arrK .u64 4 (wd a) := by go_simp
  have hRb : Row ((((w.alloc (Obj.cells (arrK .u64 4 (wd a)) 41)).alloc (Obj.cells (arrK .u64 4 (wd b)) 41)).alloc (Obj.cells (arrK .u64 8 fun _ => 0) 154)).alloc (Obj.cells (arrK .u64 8 fun _ => 0) 154)) (w.heap.size + 1) 4 := by go_simp
  have hrb : rowAt ((((w.alloc (Obj.cells (arrK .u64 4 (wd a)) 41)).alloc (Obj.cells (arrK .u64 4 (wd b)) 41)).alloc (Obj.cells (arrK .u64 8 fun _ => 0) 154)).alloc (Obj.cells (arrK .u64 8 fun _ => 0) 154)) (w.heap.size + 1) = arrK .u64 4 (wd b) := by go_simp
  have hRz : Row ((((w.alloc (Obj.cells (arrK .u64 4 (wd a)) 41)).alloc (Obj.cells (arrK .u64 4 (wd b)) 41)).alloc (Obj.cells (arrK .u64 8 fun _ => 0) 154)).alloc (Obj.cells (arrK .u64 8 fun _ => 0) 154)) (w.heap.size + 1 + 1) 8 := (row_old (by simp)).2 ((row_new (by simp)).2 (arrK_size _ _ _))
  have hRo : Row ((((w.alloc (Obj.cells (arrK .u64 4 (wd a)) 41)).alloc (Obj.cells (arrK .u64 4 (wd b)) 41)).alloc (Obj.cells (arrK .u64 8 fun _ => 0) 154)).alloc (Obj.cells (arrK .u64 8 fun _ => 0) 154)) (w.heap.size + 1 + 1 + 1) 8 := (row_new (by simp)).2 (arrK_size _ _ _)
  have hro : rowAt ((((w.alloc (Obj.cells (arrK .u64 4 (wd a)) 41)).alloc (Obj.cells (arrK .u64 4 (wd b)) 41)).alloc (Obj.cells (arrK .u64 8 fun _ => 0) 154)).alloc (Obj.cells (arrK .u64 8 fun _ => 0) 154)) (w.heap.size + 1 + 1 + 1) = arrK .u64 8 fun _ => 0 := by go_simp
  have hL : Below w.heap.size w ((((w.alloc (Obj.cells (arrK .u64 4 (wd a)) 41)).alloc (Obj.cells (arrK .u64 4 (wd b)) 41)).alloc (Obj.cells (arrK .u64 8 fun _ => 0) 154)).alloc (Obj.cells (arrK .u64 8 fun _ => 0) 154)) := by go_grown
  generalize ((((w.alloc (Obj.cells (arrK .u64 4 (wd a)) 41)).alloc (Obj.cells (arrK .u64 4 (wd b)) 41)).alloc (Obj.cells (arrK .u64 8 fun _ => 0) 154)).alloc (Obj.cells (arrK .u64 8 fun _ => 0) 154)) = W0 at *
  have hcp : ∀ ty, (Builtin.copy_ #[132, 132] ty #[.slice (some ⟨w.heap.size + 1 + 1 + 1, 0, none⟩) 4 8, .slice (some ⟨w.heap.size, 0, none⟩) 4 4]).run Tryd.prog W0.drew = .ok (.int .i64 4) (W0.drew.setRow (w.heap.size + 1 + 1 + 1) (arrK .u64 8 fun i => if i < 4 then wd a i else 0)) := fun ty => by
    rw [run_copy_rows (N := 8) (M := 4) (n := 4) Tryd.underlying132 (by kernel_rfl) rfl (by omega) (by omega) (by rw [rowAt_drew, hra]; intro u hu; exact Array.all_eq_true_iff_forall_mem.1 hca.2 u (by simpa using hu)) hRo.drew hRa.drew, rowAt_drew, rowAt_drew, hra, hro, splice_arrK (by omega) (by omega), goInt_4, arrK_congr (g := fun i => if i < 4 then wd a i else 0) fun i _ => by simp]
  have hR1 := (row_setRow_same (c' := arrK .u64 8 fun i => if i < 4 then wd a i else 0) rfl hRo.drew).2 (arrK_size _ _ _)
  have hr1 := rowAt_setRow_same (c := arrK .u64 8 fun i => if i < 4 then wd a i else 0) hRo.drew
  have hR2 : Row (W0.drew.setRow (w.heap.size + 1 + 1 + 1) (arrK .u64 8 fun i => if i < 4 then wd a i else 0)) (w.heap.size + 1) 4 := (row_setRow_far (by omega)).2 hRb.drew
  have hr2 := (rowAt_setRow_far (w := W0.drew) (c' := arrK .u64 8 fun i => if i < 4 then wd a i else 0) (show w.heap.size + 1 ≠ w.heap.size + 1 + 1 + 1 by omega)).trans hrb
  have hR3 : Row (W0.drew.setRow (w.heap.size + 1 + 1 + 1) (arrK .u64 8 fun i => if i < 4 then wd a i else 0)) (w.heap.size + 1 + 1) 8 := (row_setRow_far (by omega)).2 hRz.drew
  have hL1 : Below w.heap.size w (W0.drew.setRow (w.heap.size + 1 + 1 + 1) (arrK .u64 8 fun i => if i < 4 then wd a i else 0)) := below_setRow hL.drew (by omega)
  go_region
  generalize (W0.drew.setRow (w.heap.size + 1 + 1 + 1) (arrK .u64 8 fun i => if i < 4 then wd a i else 0)) = W1 at *
  have hcp2 : ∀ ty, (Builtin.copy_ #[132, 132] ty #[.slice (some ⟨w.heap.size + 1 + 1 + 1, 4, none⟩) 4 4, .slice (some ⟨w.heap.size + 1, 0, none⟩) 4 4]).run Tryd.prog W1.drew = .ok (.int .i64 4) (W1.drew.setRow (w.heap.size + 1 + 1 + 1) (arrK .u64 8 (wd (a + 2 ^ 256 * b)))) := fun ty => by
    rw [run_copy_rows (N := 8) (M := 4) (n := 4) Tryd.underlying132 (by kernel_rfl) rfl (by omega) (by omega) (by rw [rowAt_drew, hr2]; intro u hu; exact Array.all_eq_true_iff_forall_mem.1 hcb.2 u (by simpa using hu)) hR1.drew hR2.drew, rowAt_drew, rowAt_drew, hr1, hr2, splice_arrK (by omega) (by omega), goInt_4]
    congr 2
    refine arrK_congr fun i hi => ?_
    by_cases h : i < 4
    · rw [if_neg (by omega), if_pos h, wd_lo (k := 4) h]
    · rw [if_pos (by omega)]
      obtain ⟨j, rfl⟩ : ∃ j, i = 4 + j := ⟨i - 4, by omega⟩
      rw [wd_hi (k := 4) ha, Nat.zero_add, Nat.add_sub_cancel_left]
  clear hcp
  go_wp2
  go_region
  have hR4 : Row (W1.drew.setRow (w.heap.size + 1 + 1 + 1) (arrK .u64 8 (wd (a + 2 ^ 256 * b)))) (w.heap.size + 1 + 1 + 1) 8 := (row_setRow_same rfl hR1.drew).2 (arrK_size _ _ _)
  have hr4 := rowAt_setRow_same (c := arrK .u64 8 (wd (a + 2 ^ 256 * b))) hR1.drew
  have hR5 : Row (W1.drew.setRow (w.heap.size + 1 + 1 + 1) (arrK .u64 8 (wd (a + 2 ^ 256 * b)))) (w.heap.size + 1 + 1) 8 := (row_setRow_far (by omega)).2 hR3.drew
  have hL2 : Below w.heap.size w (W1.drew.setRow (w.heap.size + 1 + 1 + 1) (arrK .u64 8 (wd (a + 2 ^ 256 * b)))) := below_setRow hL1.drew (by omega)
  generalize (W1.drew.setRow (w.heap.size + 1 + 1 + 1) (arrK .u64 8 (wd (a + 2 ^ 256 * b)))) = W2 at *
  have hcs := arrK_cells .u64 8 (wd (a + 2 ^ 256 * b))
  go_wp2
  refine ret_row rfl Tryd.underlying154 rfl (by kernel_rfl) rfl ((row_setRow_same rfl hR5).2 hcs.1) rfl ?_
  rw [rowAt_setRow_same hR5]
  exact ⟨rfl, below_setRow hL2 (by omega)⟩

/-! Bytes, Of -/
def byt (a i : Nat) : Nat := a / 256 ^ i % 256
theorem byt_lt (a i : Nat) : byt a i < 256 := Nat.mod_lt _ (by omega)
def bytK (a s : Nat) : Nat → Nat := fun i => if i < s then byt a i else 0
theorem byt_wd (a i : Nat) : wd a (i / 8) / 2 ^ (i % 8 * 8) % 256 = byt a i := by
  unfold wd byt
  have h1 : a / 256 ^ i = a / 2 ^ (64 * (i / 8)) / 2 ^ (i % 8 * 8) := by
    rw [Nat.div_div_eq_div_mul, ← Nat.pow_add, show (256 : Nat) = 2 ^ 8 from rfl, ← Nat.pow_mul]
    congr 2; omega
  rw [h1]
  generalize a / 2 ^ (64 * (i / 8)) = M
  have h2 : 2 ^ (i % 8 * 8) * 256 ∣ 2 ^ 64 := by
    rw [show (256 : Nat) = 2 ^ 8 from rfl, ← Nat.pow_add]
    exact Nat.pow_dvd_pow 2 (by omega)
  rw [← Nat.mod_mul_right_div_self, ← Nat.mod_mul_right_div_self, Nat.mod_mod_of_dvd _ h2]
theorem bytK_step (a s : Nat) (p : Nat) : upd (bytK a s) s (byt a s) p = bytK a (s + 1) p := by
  unfold upd bytK
  by_cases h : p = s
  · subst h; rw [if_pos rfl, if_pos (by omega)]
  · rw [if_neg h]
    by_cases h2 : p < s
    · rw [if_pos h2, if_pos (by omega)]
    · rw [if_neg h2, if_neg (by omega)]

theorem zero32 : #[Value.int IntKind.u8 0, Value.int IntKind.u8 0, Value.int IntKind.u8 0, Value.int IntKind.u8 0, Value.int IntKind.u8 0, Value.int IntKind.u8 0, Value.int IntKind.u8 0, Value.int IntKind.u8 0, Value.int IntKind.u8 0, Value.int IntKind.u8 0, Value.int IntKind.u8 0, Value.int IntKind.u8 0, Value.int IntKind.u8 0, Value.int IntKind.u8 0, Value.int IntKind.u8 0, Value.int IntKind.u8 0, Value.int IntKind.u8 0, Value.int IntKind.u8 0, Value.int IntKind.u8 0, Value.int IntKind.u8 0, Value.int IntKind.u8 0, Value.int IntKind.u8 0, Value.int IntKind.u8 0, Value.int IntKind.u8 0, Value.int IntKind.u8 0, Value.int IntKind.u8 0, Value.int IntKind.u8 0, Value.int IntKind.u8 0, Value.int IntKind.u8 0, Value.int IntKind.u8 0, Value.int IntKind.u8 0, Value.int IntKind.u8 0] = arrK .u8 32 fun _ => 0 := by kernel_rfl
theorem zero4w : #[Value.int IntKind.u64 0, Value.int IntKind.u64 0, Value.int IntKind.u64 0, Value.int IntKind.u64 0] = arrK .u64 4 fun _ => 0 := arrK4 .u64 fun _ => 0

def bval (f : Nat → Nat) : Nat → Nat
  | 0 => 0
  | n + 1 => bval f n + 256 ^ n * f n
theorem bval_lt {f : Nat → Nat} {n : Nat} (h : ∀ i < n, f i < 256) : bval f n < 256 ^ n := by
  induction n with
  | zero => simp [bval]
  | succ n ih =>
    have h1 := ih fun i hi => h i (by omega)
    have h2 : 256 ^ n * (f n + 1) ≤ 256 ^ n * 256 := Nat.mul_le_mul_left _ (by have := h n (by omega); omega)
    rw [Nat.mul_add] at h2
    simp only [bval, Nat.pow_succ]; omega
theorem or_low {x y i : Nat} (h : x < 2 ^ i) : x ||| 2 ^ i * y = x + 2 ^ i * y := by
  have := Nat.two_pow_add_eq_or_of_lt h y
  rw [Nat.or_comm, ← this, Nat.add_comm]
theorem of_step {f : Nat → Nat} {s : Nat} (hf : ∀ i < s + 1, f i < 256) (p : Nat) :
    upd (wd (bval f s)) (s / 8) (wd (bval f s) (s / 8) ||| f s * 2 ^ (s % 8 * 8)) p = wd (bval f (s + 1)) p ∧ f s * 2 ^ (s % 8 * 8) < 18446744073709551616 ∧ (wd (bval f s) (s / 8) ||| f s * 2 ^ (s % 8 * 8)) < 18446744073709551616 := by
  have hs := hf s (by omega)
  have hb := bval_lt (f := f) (n := s) fun i hi => hf i (by omega)
  have e1 : 256 ^ s = 2 ^ (64 * (s / 8)) * 2 ^ (s % 8 * 8) := by
    rw [← Nat.pow_add, show (256 : Nat) = 2 ^ 8 from rfl, ← Nat.pow_mul]; congr 1; omega
  have hlow : bval f s / 2 ^ (64 * (s / 8)) < 2 ^ (s % 8 * 8) := by
    rw [Nat.div_lt_iff_lt_mul (Nat.pow_pos (by omega)), Nat.mul_comm, ← e1]; exact hb
  have h7 : 2 ^ (s % 8 * 8) ≤ 2 ^ 56 := Nat.pow_le_pow_right (by omega) (by omega)
  have hfs : f s * 2 ^ (s % 8 * 8) ≤ 255 * 2 ^ (s % 8 * 8) := Nat.mul_le_mul_right _ (by omega)
  have hw : wd (bval f s) (s / 8) = bval f s / 2 ^ (64 * (s / 8)) := by unfold wd; exact Nat.mod_eq_of_lt (by omega)
  have hor : wd (bval f s) (s / 8) ||| f s * 2 ^ (s % 8 * 8) = bval f s / 2 ^ (64 * (s / 8)) + 2 ^ (s % 8 * 8) * f s := by
    rw [hw, Nat.mul_comm (f s), or_low hlow]
  have hlt : bval f s / 2 ^ (64 * (s / 8)) + 2 ^ (s % 8 * 8) * f s < 18446744073709551616 := by rw [Nat.mul_comm] at hfs; omega
  refine ⟨?_, by omega, by omega⟩
  have e2 : bval f (s + 1) = bval f s + 2 ^ (64 * (s / 8)) * (2 ^ (s % 8 * 8) * f s) := by
    show bval f s + 256 ^ s * f s = _
    rw [e1, Nat.mul_assoc]
  unfold upd
  by_cases hp : p = s / 8
  · rw [if_pos hp, hor, hp, e2]
    unfold wd
    rw [Nat.add_mul_div_left _ _ (Nat.pow_pos (by omega))]
    exact (Nat.mod_eq_of_lt hlt).symm
  · rw [if_neg hp]
    rcases Nat.lt_or_ge p (s / 8) with h | h
    · rw [e2, wd_lo h]
    · have h3 : 256 ^ (s + 1) ≤ 2 ^ (64 * p) := by
        rw [show (256 : Nat) = 2 ^ 8 from rfl, ← Nat.pow_mul]
        exact Nat.pow_le_pow_right (by omega) (by omega)
      have h4 := bval_lt (f := f) (n := s + 1) hf
      have h5 : 256 ^ s ≤ 256 ^ (s + 1) := Nat.pow_le_pow_right (by omega) (by omega)
      rw [wd_ge (by omega), wd_ge (by omega)]

theorem limb_Of (f : Nat → Nat) (w : World) (hf : ∀ i < 32, f i < 256) :
    Calls Tryd.prog 37 #[.agg (arrK .u8 32 f)] w fun e w' => e = .returned (numV (bval f 32)) ∧ Below w.heap.size w w' := by
  unfold numV
  have hca := arrK_cells .u8 32 f
  have hcz := arrK_cells .u64 4 fun _ => 0
  have hRa : Row (((w.alloc (Obj.cells (arrK .u8 32 f) 57)).alloc (Obj.cells (arrK .u64 4 fun _ => 0) 41)).alloc (Obj.cells (arrK .u64 4 fun _ => 0) 41)) w.heap.size 32 := by go_simp
  have hra : rowAt (((w.alloc (Obj.cells (arrK .u8 32 f) 57)).alloc (Obj.cells (arrK .u64 4 fun _ => 0) 41)).alloc (Obj.cells (arrK .u64 4 fun _ => 0) 41)) w.heap.size = arrK .u8 32 f := by go_simp
  have hRo : Row (((w.alloc (Obj.cells (arrK .u8 32 f) 57)).alloc (Obj.cells (arrK .u64 4 fun _ => 0) 41)).alloc (Obj.cells (arrK .u64 4 fun _ => 0) 41)) (w.heap.size + 1) 4 := by go_simp
  have hRz : Row (((w.alloc (Obj.cells (arrK .u8 32 f) 57)).alloc (Obj.cells (arrK .u64 4 fun _ => 0) 41)).alloc (Obj.cells (arrK .u64 4 fun _ => 0) 41)) (w.heap.size + 1 + 1) 4 := by go_simp
  have hrz : rowAt (((w.alloc (Obj.cells (arrK .u8 32 f) 57)).alloc (Obj.cells (arrK .u64 4 fun _ => 0) 41)).alloc (Obj.cells (arrK .u64 4 fun _ => 0) 41)) (w.heap.size + 1 + 1) = arrK .u64 4 (wd (bval f 0)) := by go_simp; exact arrK_congr fun i _ => by simp [bval, wd_zero]
  have hL : Below w.heap.size w (((w.alloc (Obj.cells (arrK .u8 32 f) 57)).alloc (Obj.cells (arrK .u64 4 fun _ => 0) 41)).alloc (Obj.cells (arrK .u64 4 fun _ => 0) 41)) := by go_grown
  rw [← zero4w] at hRa hra hRo hRz hrz hL
  go_enter Tryd.func37, Tryd.ntmps37
  go_wp2
  rw [zero4w] at *
  generalize (((w.alloc (Obj.cells (arrK .u8 32 f) 57)).alloc (Obj.cells (arrK .u64 4 fun _ => 0) 41)).alloc (Obj.cells (arrK .u64 4 fun _ => 0) 41)) = W0 at *
  go_loopw [7] (fun i wr => ∃ s : Nat, i = .int .i64 s ∧ s ≤ 32 ∧ Row wr (w.heap.size + 1 + 1) 4 ∧ rowAt wr (w.heap.size + 1 + 1) = arrK .u64 4 (wd (bval f s)) ∧ Below (w.heap.size + 1 + 1) W0 wr) (fun i _ => 32 - (intOf i).toNat)
  case atStart => exact ⟨0, rfl, by omega, hRz, hrz, Below.refl _ _⟩
  case round =>
    obtain ⟨s, rfl, hs, hR, hr, hb⟩ := hrel
    have hRo' := row_below hRo hb (by omega)
    by_cases h32 : s = 32
    · subst h32
      have hcs := arrK_cells .u64 4 (wd (bval f 32))
      go_wp2
      refine ret_row rfl Tryd.underlying41 rfl (by kernel_rfl) rfl ((row_setRow_same rfl hRo').2 hcs.1) rfl ?_
      rw [rowAt_setRow_same hRo']
      exact ⟨rfl, below_setRow (hL.trans (hb.mono (by omega))) (by omega)⟩
    · have hix : ∀ W : World, (Instr.index 57 (.agg (arrK .u8 32 f)) (.int .i64 s)).run Tryd.prog W = .ok (.int .u8 (f s : Nat)) W := fun W => index_arrK Tryd.underlying57 Tryd.underlying5 (by kernel_rfl) (by omega) .i64 W
      have hst := of_step (f := f) (s := s) (fun i hi => hf i (by omega))
      have hst1 := arrK_congr (k := .u64) (n := 4) fun p _ => (hst p).1
      obtain ⟨-, hst2, hst3⟩ := hst 0
      obtain ⟨q, hq⟩ : ∃ q, q = s / 8 := ⟨_, rfl⟩
      obtain ⟨r, hr'⟩ : ∃ r, r = s % 8 := ⟨_, rfl⟩
      have hqi : (s : Int) / 8 = q := by omega
      have hri : (s : Int) % 8 = r := by omega
      rw [← hq, ← hr'] at hst1 hst3
      rw [← hr'] at hst2
      have hq4 : q < 4 := by omega
      have hr8 : r < 8 := by omega
      have hc : wr.cell? ⟨w.heap.size + 1 + 1, q, none⟩ = some (.int .u64 (wd (bval f s) q : Nat)) := by rw [hR.cell, hr, arrK_at hq4]
      have hfz := hR.frozen q
      have hfs := hf s (by omega)
      have hX := wd_lt (bval f s) q
      have hHst := Lib.hid hst1
      have hHr := Lib.hid hr
      have hd : decide ((s : Int) < 32) = true := by simp; omega
      clear hq hr' hst hst1 hr
      generalize wd (bval f s) q = X at *
      generalize f s = x at *
      have hv : bits .or .u64 (X : Int) (IntKind.u64.wrap ((x : Int) * 2 ^ (r * 8))) = ((X ||| x * 2 ^ (r * 8) : Nat) : Int) := by
        rw [show (x : Int) * 2 ^ (r * 8) = ((x * 2 ^ (r * 8) : Nat) : Int) by simp, show IntKind.u64.wrap ((x * 2 ^ (r * 8) : Nat) : Int) = ((x * 2 ^ (r * 8) : Nat) : Int) by rw [IntKind.wrap_u64]; omega, u64_or_nat _ _ hX hst2]
      have hHv := Lib.hid hv
      clear hv
      go_wp2
      go_round
      case rel =>
        refine ⟨s + 1, by go_num, by omega, row_setCell.2 hR, ?_, hb.setCell (by simp) _⟩
        rw [rowAt_setCell_same, hHr.out, hHv.out, arrK_set, hHst.out]
      case measure => simp [intOf]; omega
end Go.Proofs.YtdlmamnnamlleaaDoor
namespace Go.Proofs.YtdlmamnnamlleaaDoor
open Go.ChangeShapes Go.WideShapes Go.ChangeAt Go.RowKit
set_option maxHeartbeats 1000000
set_option maxRecDepth 100000
attribute [local go_sem ↓] load_num store_num execl_num execs_num load_wide store_wide execl_wide execs_wide
attribute [local go_sem] isHead_mk blkOf_mk isAgg_mk cellsV_mk row_drew row_new_cells row_old rowAt_new rowAt_old

/-! math/bits: the model's own rows. -/
def sub64Entry : Array Value → Sem Value := fun args => do
  let (x, y, b) ← Extern.MathBitsCarry.three "Sub64" args
  pure (Extern.MathBitsCarry.pair ((x + Extern.MathBitsCarry.m64 - y - b) % Extern.MathBitsCarry.m64) (if x < y + b then 1 else 0))
theorem run_sub64 (P : Program) (x y b : Nat) (hb : b ≤ 1) (w : World) :
    (sub64Entry #[.int .u64 x, .int .u64 y, .int .u64 b]).run P w =
      .ok (.tuple #[.int .u64 (((x + 18446744073709551616 - y - b) % 18446744073709551616 : Nat) : Int), .int .u64 ((if x < y + b then 1 else 0 : Nat) : Int)]) w := by
  have : b = 0 ∨ b = 1 := by omega
  rcases this with rfl | rfl <;> rfl
theorem call_sub64 (x y b : Nat) (hb : b ≤ 1) (w : World) :
    (callFunc 63 #[.int .u64 x, .int .u64 y, .int .u64 b]).run Tryd.prog w =
      .ok (.value (.tuple #[.int .u64 (((x + 18446744073709551616 - y - b) % 18446744073709551616 : Nat) : Int), .int .u64 ((if x < y + b then 1 else 0 : Nat) : Int)])) w := by
  rw [run_callFunc_extern Tryd.func63 (by kernel_rfl) (by kernel_rfl) (by kernel_rfl) (e := sub64Entry) (by kernel_rfl), run_sub64 _ x y b hb]
  rfl
/-- The borrow ahead of word k; word k of the difference. -/
def bor (f g : Nat → Nat) : Nat → Nat
  | 0 => 0
  | k + 1 => if f k < g k + bor f g k then 1 else 0
def dif (f g : Nat → Nat) (k : Nat) : Nat := (f k + 18446744073709551616 - g k - bor f g k) % 18446744073709551616
theorem bor_le (f g : Nat → Nat) (k : Nat) : bor f g k ≤ 1 := by
  cases k with
  | zero => simp [bor]
  | succ k => unfold bor; split <;> omega
theorem dif_lt (f g : Nat → Nat) (k : Nat) : dif f g k < 18446744073709551616 := Nat.mod_lt _ (by omega)
theorem dif_wval {f g : Nat → Nat} {n : Nat} (hf : ∀ i < n, f i < 18446744073709551616) (hg : ∀ i < n, g i < 18446744073709551616) :
    wval (dif f g) n + wval g n = wval f n + 2 ^ (64 * n) * bor f g n := by
  induction n with
  | zero => simp [wval, bor]
  | succ n ih =>
    have h1 := ih (fun i hi => hf i (by omega)) (fun i hi => hg i (by omega))
    have h2 := hf n (by omega)
    have h3 := hg n (by omega)
    have h4 := bor_le f g n
    have h5 : dif f g n + g n + bor f g n = f n + 18446744073709551616 * bor f g (n + 1) := by
      unfold dif
      show _ = f n + 18446744073709551616 * (if f n < g n + bor f g n then 1 else 0)
      split <;> omega
    simp only [wval]
    rw [show 64 * (n + 1) = 64 * n + 64 by omega, Nat.pow_add]
    generalize 2 ^ (64 * n) = P at *
    have h6 : P * (dif f g n + g n + bor f g n) = P * (f n + 18446744073709551616 * bor f g (n + 1)) := by rw [h5]
    rw [Nat.mul_add, Nat.mul_add, Nat.mul_add] at h6
    rw [Nat.mul_assoc]
    rw [show (2 : Nat) ^ 64 = 18446744073709551616 from rfl]
    omega
/-- What Sub answers. -/
def subN (a b : Nat) : Nat := (a + 2 ^ 256 - b) % 2 ^ 256
def lessN (a b : Nat) : Nat := if a < b then 1 else 0
theorem dif_sub {a b : Nat} (ha : a < 2 ^ 256) (hb : b < 2 ^ 256) : wval (dif (wd a) (wd b)) 4 = subN a b ∧ bor (wd a) (wd b) 4 = lessN a b := by
  have h := dif_wval (f := wd a) (g := wd b) (n := 4) (fun i _ => wd_lt a i) fun i _ => wd_lt b i
  rw [wval_wd, wval_wd, show 64 * 4 = 256 from rfl, Nat.mod_eq_of_lt ha, Nat.mod_eq_of_lt hb] at h
  have h1 := bor_le (wd a) (wd b) 4
  have h2 := wval_lt (f := dif (wd a) (wd b)) (k := 4) fun i _ => dif_lt _ _ i
  rw [show 64 * 4 = 256 from rfl] at h2
  unfold subN lessN
  generalize 2 ^ 256 = P at *
  have : bor (wd a) (wd b) 4 = 0 ∨ bor (wd a) (wd b) 4 = 1 := by omega
  rcases this with e | e
  · rw [e] at h ⊢
    simp only [Nat.mul_zero, Nat.add_zero] at h
    rw [if_neg (by omega)]
    refine ⟨?_, rfl⟩
    rw [show a + P - b = (a - b) + P by omega, Nat.add_mod_right, Nat.mod_eq_of_lt (by omega)]
    omega
  · rw [e] at h ⊢
    simp only [Nat.mul_one] at h
    rw [if_pos (by omega)]
    refine ⟨?_, rfl⟩
    rw [Nat.mod_eq_of_lt (by omega)]
    omega
/-- The first k words of one, the others of another. -/
def mixW (f g : Nat → Nat) (k : Nat) : Nat → Nat := fun i => if i < k then f i else g i
theorem mixW_upd (f g : Nat → Nat) (k : Nat) : upd (mixW f g k) k (f k) = mixW f g (k + 1) := by
  funext i
  unfold upd mixW
  by_cases e : i = k
  · subst e; rw [if_pos rfl, if_pos (by omega)]
  · rw [if_neg e]
    by_cases e2 : i < k
    · rw [if_pos e2, if_pos (by omega)]
    · rw [if_neg e2, if_neg (by omega)]

theorem limb_Sub (a b : Nat) (w : World) (ha : a < 2 ^ 256) (hb : b < 2 ^ 256) :
    Calls Tryd.prog 33 #[numV a, numV b] w fun e w' => e = .returned (.tuple #[numV (subN a b), .int .u64 (lessN a b : Nat)]) ∧ Below w.heap.size w w' := by
  unfold numV
  have hca := arrK_cells .u64 4 (wd a)
  have hcb := arrK_cells .u64 4 (wd b)
  have hL : Below w.heap.size w (((w.alloc (Obj.cells (arrK .u64 4 (wd a)) 41)).alloc (Obj.cells (arrK .u64 4 (wd b)) 41)).alloc (Obj.cells (arrK .u64 4 fun _ => 0) 41)) := by go_grown
  have hRa : Row (((w.alloc (Obj.cells (arrK .u64 4 (wd a)) 41)).alloc (Obj.cells (arrK .u64 4 (wd b)) 41)).alloc (Obj.cells (arrK .u64 4 fun _ => 0) 41)) w.heap.size 4 := by go_simp
  have hra : rowAt (((w.alloc (Obj.cells (arrK .u64 4 (wd a)) 41)).alloc (Obj.cells (arrK .u64 4 (wd b)) 41)).alloc (Obj.cells (arrK .u64 4 fun _ => 0) 41)) w.heap.size = arrK .u64 4 (mixW (dif (wd a) (wd b)) (wd a) 0) := by go_simp; exact arrK_congr fun i _ => by simp [mixW]
  have hRb : Row (((w.alloc (Obj.cells (arrK .u64 4 (wd a)) 41)).alloc (Obj.cells (arrK .u64 4 (wd b)) 41)).alloc (Obj.cells (arrK .u64 4 fun _ => 0) 41)) (w.heap.size + 1) 4 := by go_simp
  have hrb : rowAt (((w.alloc (Obj.cells (arrK .u64 4 (wd a)) 41)).alloc (Obj.cells (arrK .u64 4 (wd b)) 41)).alloc (Obj.cells (arrK .u64 4 fun _ => 0) 41)) (w.heap.size + 1) = arrK .u64 4 (wd b) := by go_simp
  have hRo : Row (((w.alloc (Obj.cells (arrK .u64 4 (wd a)) 41)).alloc (Obj.cells (arrK .u64 4 (wd b)) 41)).alloc (Obj.cells (arrK .u64 4 fun _ => 0) 41)) (w.heap.size + 1 + 1) 4 := (row_new (by simp)).2 (arrK_size _ _ _)
  rw [← zero4w] at *
  go_enter Tryd.func33, Tryd.ntmps33
  go_wp2
  generalize (((w.alloc (Obj.cells (arrK .u64 4 (wd a)) 41)).alloc (Obj.cells (arrK .u64 4 (wd b)) 41)).alloc (Obj.cells _ 41)) = W0 at *
  go_loopw [6, 8] (fun c i wr => ∃ k : Nat, i = .int .i64 k ∧ k ≤ 4 ∧ c = .int .u64 (bor (wd a) (wd b) k : Nat) ∧ Row wr w.heap.size 4 ∧ rowAt wr w.heap.size = arrK .u64 4 (mixW (dif (wd a) (wd b)) (wd a) k) ∧ Row wr (w.heap.size + 1) 4 ∧ rowAt wr (w.heap.size + 1) = arrK .u64 4 (wd b) ∧ Row wr (w.heap.size + 1 + 1) 4 ∧ Below w.heap.size w wr) (fun _ i _ => 4 - (intOf i).toNat)
  case atStart => exact ⟨0, rfl, by omega, rfl, hRa, hra, hRb, hrb, hRo, hL⟩
  case round =>
    clear hRa hra hRb hrb hRo hL
    obtain ⟨k, rfl, hk, rfl, hRa, hra, hRb, hrb, hRo, hL⟩ := hrel
    by_cases h4 : k = 4
    · subst h4
      have hds := dif_sub ha hb
      have e : arrK .u64 4 (mixW (dif (wd a) (wd b)) (wd a) 4) = arrK .u64 4 (wd (subN a b)) := arrK_congr fun i hi => by
        unfold mixW
        rw [if_pos hi, ← hds.1, wd_wval (fun i _ => dif_lt _ _ i) i hi]
      rw [e] at hra
      have hcs := arrK_cells .u64 4 (wd (subN a b))
      rw [hds.2]
      clear hds e
      go_wp2
      exact ret_stored2 (p := 4) (q := 5) (ty := 41) (g := w.heap.size + 1 + 1) (n := 4) (c := arrK .u64 4 (wd (subN a b))) rfl Tryd.underlying41 rfl (by kernel_rfl) rfl hRo hcs.1 rfl ⟨rfl, below_setRow hL (by omega)⟩
    · have c1 := hRa.cell k
      rw [hra, arrK_at (by omega)] at c1
      have c2 := hRb.cell k
      rw [hrb, arrK_at (by omega)] at c2
      have hf := hRa.frozen k
      have e1 : mixW (dif (wd a) (wd b)) (wd a) k k = wd a k := by unfold mixW; rw [if_neg (by omega)]
      rw [e1] at c1
      have hbl := bor_le (wd a) (wd b) k
      have hcall := fun W => call_sub64 (wd a k) (wd b k) (bor (wd a) (wd b) k) hbl W
      rw [show ((wd a k + 18446744073709551616 - wd b k - bor (wd a) (wd b) k) % 18446744073709551616) = dif (wd a) (wd b) k from rfl, show (if wd a k < wd b k + bor (wd a) (wd b) k then 1 else 0) = bor (wd a) (wd b) (k + 1) from rfl] at hcall
      have hHr := Lib.hid hra
      clear hra hbl e1
      generalize dif (wd a) (wd b) = d at *
      generalize bor (wd a) (wd b) = bb at *
      go_wp2
      go_region
      go_wp2
      go_round
      case rel => exact ⟨k + 1, by go_num, by omega, rfl, row_setCell.2 hRa, by rw [rowAt_drew, rowAt_setCell_same, hHr.out, arrK_set, mixW_upd], row_setCell.2 hRb, by rw [rowAt_drew, rowAt_setCell_far (by simp)]; exact hrb, row_setCell.2 hRo, (hL.setCell (Nat.le_refl _) _).drew⟩
      case measure => simp [intOf]; omega
end Go.Proofs.YtdlmamnnamlleaaDoor
namespace Go.Proofs.YtdlmamnnamlleaaDoor
open Go

theorem or_mid {x y i : Nat} (h : x < 2 ^ i) : x ||| 2 ^ i * y = x + 2 ^ i * y := or_low h
/-- A word that is made of two neighbours. -/
theorem sh_mid (X k : Nat) (hk : k ≤ 64) : X / 2 ^ k % 2 ^ 64 = (X % 2 ^ 64) / 2 ^ k ||| (X / 2 ^ 64 % 2 ^ 64) * 2 ^ (64 - k) % 2 ^ 64 := by
  have hp : (2 : Nat) ^ 64 = 2 ^ (64 - k) * 2 ^ k := by rw [← Nat.pow_add]; congr 1; omega
  have hp' : (2 : Nat) ^ 64 = 2 ^ k * 2 ^ (64 - k) := by rw [← Nat.pow_add]; congr 1; omega
  have hX : X = X % 2 ^ 64 + 2 ^ k * (2 ^ (64 - k) * (X / 2 ^ 64)) := by rw [← Nat.mul_assoc, ← hp']; exact (Nat.mod_add_div X (2 ^ 64)).symm
  have hlt : X % 2 ^ 64 / 2 ^ k < 2 ^ (64 - k) := by
    rw [Nat.div_lt_iff_lt_mul (Nat.pow_pos (by omega)), ← hp]; exact Nat.mod_lt _ (Nat.pow_pos (by omega))
  have h1 : X / 2 ^ k = X % 2 ^ 64 / 2 ^ k + 2 ^ (64 - k) * (X / 2 ^ 64) := by
    conv => lhs; rw [hX]
    rw [Nat.add_mul_div_left _ _ (Nat.pow_pos (by omega))]
  have key : ∀ Y, 2 ^ (64 - k) * Y % 2 ^ 64 = 2 ^ (64 - k) * (Y % 2 ^ k) := fun Y => by rw [hp, Nat.mul_mod_mul_left]
  have h2 := key (X / 2 ^ 64)
  have h3 : (X / 2 ^ 64 % 2 ^ 64) * 2 ^ (64 - k) % 2 ^ 64 = 2 ^ (64 - k) * (X / 2 ^ 64 % 2 ^ k) := by
    rw [Nat.mul_comm, key, Nat.mod_mod_of_dvd _ (Nat.pow_dvd_pow 2 hk)]
  rw [h3, or_mid hlt, h1, Nat.add_mod, h2]
  have h4 : X % 2 ^ 64 / 2 ^ k % 2 ^ 64 = X % 2 ^ 64 / 2 ^ k := Nat.mod_eq_of_lt (Nat.lt_of_lt_of_le hlt (Nat.pow_le_pow_right (by omega) (by omega)))
  rw [h4]
  apply Nat.mod_eq_of_lt
  have h5 : X / 2 ^ 64 % 2 ^ k < 2 ^ k := Nat.mod_lt _ (Nat.pow_pos (by omega))
  have h6 : 2 ^ (64 - k) * (X / 2 ^ 64 % 2 ^ k + 1) ≤ 2 ^ (64 - k) * 2 ^ k := Nat.mul_le_mul_left _ h5
  rw [← hp, Nat.mul_add] at h6
  omega
/-- Words of a number shifted to the right by 64 v + k. -/
theorem wd_shr (a v k t : Nat) (hk : k < 64) : wd (a / 2 ^ (64 * v + k)) t = wd a (v + t) / 2 ^ k ||| wd a (v + t + 1) * 2 ^ (64 - k) % 2 ^ 64 := by
  have h := sh_mid (a / 2 ^ (64 * (v + t))) k (by omega)
  unfold wd
  rw [show a / 2 ^ (64 * v + k) / 2 ^ (64 * t) = a / 2 ^ (64 * (v + t)) / 2 ^ k by
    rw [Nat.div_div_eq_div_mul, Nat.div_div_eq_div_mul, ← Nat.pow_add, ← Nat.pow_add]; congr 2; omega, h]
  rw [show a / 2 ^ (64 * (v + t)) / 2 ^ 64 = a / 2 ^ (64 * (v + t + 1)) by rw [Nat.div_div_eq_div_mul, ← Nat.pow_add]; rfl]
/-- Words of a number shifted to the left. -/
theorem wd_shl_lt (a v k j : Nat) (hj : j < v) : wd (a * 2 ^ (64 * v + k)) j = 0 := by
  unfold wd
  have e : 2 ^ (64 * v + k) = 2 ^ (64 * j) * (2 ^ 64 * 2 ^ (64 * (v - j - 1) + k)) := by
    rw [← Nat.pow_add, ← Nat.pow_add]; congr 1; omega
  rw [e, Nat.mul_left_comm a, Nat.mul_left_comm a]
  rw [Nat.mul_div_cancel_left _ (Nat.pow_pos (by omega)), Nat.mul_mod_right]
theorem wd_shl_eq (a v k : Nat) : wd (a * 2 ^ (64 * v + k)) v = wd a 0 * 2 ^ k % 2 ^ 64 := by
  unfold wd
  rw [show a * 2 ^ (64 * v + k) = 2 ^ (64 * v) * (a * 2 ^ k) by rw [Nat.mul_left_comm, ← Nat.pow_add], Nat.mul_div_cancel_left _ (Nat.pow_pos (by omega)), Nat.mul_zero, Nat.pow_zero, Nat.div_one, Nat.mod_mul_mod]
theorem wd_shl_gt (a v k t : Nat) (hk : k < 64) : wd (a * 2 ^ (64 * v + k)) (v + (t + 1)) = wd a (t + 1) * 2 ^ k % 2 ^ 64 ||| wd a t / 2 ^ (64 - k) := by
  have h := sh_mid (a / 2 ^ (64 * t)) (64 - k) (by omega)
  unfold wd
  have e : a * 2 ^ (64 * v + k) / 2 ^ (64 * (v + (t + 1))) = a / 2 ^ (64 * t) / 2 ^ (64 - k) := by
    rw [show 64 * (v + (t + 1)) = 64 * v + k + (64 * t + (64 - k)) by omega, Nat.pow_add 2 (64 * v + k), ← Nat.div_div_eq_div_mul, Nat.mul_div_cancel _ (Nat.pow_pos (by omega)), Nat.pow_add, Nat.div_div_eq_div_mul]
  rw [e, h, show 64 - (64 - k) = k by omega, Nat.or_comm]
  rw [show a / 2 ^ (64 * t) / 2 ^ 64 = a / 2 ^ (64 * (t + 1)) by rw [Nat.div_div_eq_div_mul, ← Nat.pow_add]; rfl]

/-! One bit more. -/
theorem wd_or (a b i : Nat) : wd (a ||| b) i = wd a i ||| wd b i := by
  unfold wd
  rw [← Nat.shiftRight_eq_div_pow, ← Nat.shiftRight_eq_div_pow, ← Nat.shiftRight_eq_div_pow, Nat.shiftRight_or_distrib, Nat.or_mod_two_pow]
theorem wd_bit (i p : Nat) : wd (2 ^ i) p = if p = i / 64 then 2 ^ (i % 64) else 0 := by
  unfold wd
  split
  · rename_i h
    subst h
    rw [show (2 : Nat) ^ i = 2 ^ (64 * (i / 64)) * 2 ^ (i % 64) by rw [← Nat.pow_add]; congr 1; omega, Nat.mul_div_cancel_left _ (Nat.pow_pos (by omega))]
    exact Nat.mod_eq_of_lt (Nat.pow_lt_pow_right (by omega) (by omega))
  · rename_i h
    rcases Nat.lt_or_ge p (i / 64) with h1 | h1
    · rw [show (2 : Nat) ^ i = 2 ^ (64 * p) * (2 ^ 64 * 2 ^ (i - 64 * p - 64)) by rw [← Nat.pow_add, ← Nat.pow_add]; congr 1; omega, Nat.mul_div_cancel_left _ (Nat.pow_pos (by omega)), Nat.mul_mod_right]
    · rw [Nat.div_eq_of_lt (Nat.pow_lt_pow_right (by omega) (by omega))]
/-- What DivMod has ahead of bit i - 1. -/
def dmQ (a m i : Nat) : Nat := a / 2 ^ i / m * 2 ^ i
def dmR (a m i : Nat) : Nat := a / 2 ^ i % m
def abit (a i : Nat) : Nat := a / 2 ^ i % 2
theorem half_up (a i : Nat) : a / 2 ^ i = 2 * (a / 2 ^ (i + 1)) + abit a i := by
  unfold abit
  rw [Nat.pow_succ, ← Nat.div_div_eq_div_mul]; omega
theorem dm_mod {A m b : Nat} (hm : 0 < m) (hb : b ≤ 1) : (2 * A + b) / m = 2 * (A / m) + (if m ≤ 2 * (A % m) + b then 1 else 0) ∧ (2 * A + b) % m = if m ≤ 2 * (A % m) + b then 2 * (A % m) + b - m else 2 * (A % m) + b := by
  have hr := Nat.mod_lt A hm
  have hA := Nat.mod_add_div A m
  generalize A % m = r at *
  generalize A / m = q at *
  have e : 2 * A + b = (2 * r + b) + m * (2 * q) := by rw [← hA, Nat.mul_add, Nat.mul_left_comm]; omega
  rw [e, Nat.add_mul_div_left _ _ hm, Nat.add_mul_mod_self_left]
  split
  · rename_i h
    have h1 : 2 * r + b = (2 * r + b - m) + m * 1 := by omega
    rw [h1, Nat.add_mul_div_left _ _ hm, Nat.add_mul_mod_self_left, Nat.div_eq_of_lt (by omega), Nat.mod_eq_of_lt (by omega)]
    omega
  · rename_i h
    rw [Nat.div_eq_of_lt (by omega), Nat.mod_eq_of_lt (by omega)]
    omega
theorem dm_round {a m i : Nat} (hm : 0 < m) : (m ≤ 2 * dmR a m (i + 1) + abit a i → dmR a m i = 2 * dmR a m (i + 1) + abit a i - m ∧ dmQ a m i = dmQ a m (i + 1) ||| 2 ^ i) ∧
    (¬ m ≤ 2 * dmR a m (i + 1) + abit a i → dmR a m i = 2 * dmR a m (i + 1) + abit a i ∧ dmQ a m i = dmQ a m (i + 1)) := by
  have hb : abit a i ≤ 1 := by unfold abit; omega
  have h := dm_mod (A := a / 2 ^ (i + 1)) (m := m) (b := abit a i) hm hb
  rw [← half_up] at h
  have hQ : dmQ a m (i + 1) = 2 ^ (i + 1) * (a / 2 ^ (i + 1) / m) := by unfold dmQ; rw [Nat.mul_comm]
  refine ⟨fun hl => ?_, fun hl => ?_⟩
  · unfold dmR at hl ⊢
    simp only [hl, if_true] at h
    refine ⟨h.2, ?_⟩
    rw [hQ, ← Nat.two_pow_add_eq_or_of_lt (Nat.pow_lt_pow_right (by omega) (by omega))]
    unfold dmQ
    rw [h.1, Nat.pow_succ, Nat.add_mul, Nat.one_mul, Nat.mul_comm (2 ^ i) 2, Nat.mul_assoc, Nat.mul_assoc]
    congr 2
    rw [Nat.mul_comm]
  · unfold dmR at hl ⊢
    simp only [hl, if_false] at h
    refine ⟨h.2, ?_⟩
    unfold dmQ
    rw [h.1, Nat.add_zero, Nat.pow_succ, Nat.mul_comm (2 ^ i) 2, ← Nat.mul_assoc, Nat.mul_comm _ 2]
theorem dm_start {a m n : Nat} (ha : a < 2 ^ n) : dmQ a m n = 0 ∧ dmR a m n = 0 := by
  have h : a / 2 ^ n = 0 := Nat.div_eq_of_lt ha
  unfold dmQ dmR
  rw [h]; simp
theorem dm_end (a m : Nat) : dmQ a m 0 = a / m ∧ dmR a m 0 = a % m := by simp [dmQ, dmR]

/-! Halves -/
theorem gcd_both {a b : Nat} (ha : a % 2 = 0) (hb : b % 2 = 0) : Nat.gcd a b = 2 * Nat.gcd (a / 2) (b / 2) := by
  rw [← Nat.gcd_mul_left, show 2 * (a / 2) = a by omega, show 2 * (b / 2) = b by omega]
theorem gcd_one {a b : Nat} (ha : a % 2 = 0) (hb : b % 2 = 1) : Nat.gcd a b = Nat.gcd (a / 2) b := by
  have hc : Nat.Coprime 2 b := by
    have h1 : Nat.gcd 2 b ∣ 2 := Nat.gcd_dvd_left _ _
    have h2 : Nat.gcd 2 b ∣ b := Nat.gcd_dvd_right _ _
    have h3 : Nat.gcd 2 b ≤ 2 := Nat.le_of_dvd (by omega) h1
    have h4 : Nat.gcd 2 b ≠ 0 := fun h => by rw [h] at h1; have := Nat.eq_zero_of_zero_dvd h1; omega
    have h5 : Nat.gcd 2 b ≠ 2 := fun h => by rw [h] at h2; omega
    show Nat.gcd 2 b = 1
    omega
  have e : a = 2 * (a / 2) := by omega
  conv => lhs; rw [e]
  exact Nat.Coprime.gcd_mul_left_cancel _ hc
theorem gcd_sub {a b : Nat} (h : b ≤ a) : Nat.gcd (a - b) b = Nat.gcd a b := by
  conv => rhs; rw [show a = (a - b) + b by omega]
  rw [Nat.gcd_add_self_left]
end Go.Proofs.YtdlmamnnamlleaaDoor
namespace Go.Proofs.YtdlmamnnamlleaaDoor
open Go.ChangeShapes Go.WideShapes Go.ChangeAt Go.RowKit
set_option maxHeartbeats 1000000
set_option maxRecDepth 100000
attribute [local go_sem ↓] load_num store_num execl_num execs_num load_wide store_wide execl_wide execs_wide
attribute [local go_sem] isHead_mk blkOf_mk isAgg_mk cellsV_mk row_drew row_new_cells row_old rowAt_new rowAt_old

theorem order_word {a b i : Nat} (hlt : a / 2 ^ (64 * (i + 1)) = b / 2 ^ (64 * (i + 1))) :
    (wd a i < wd b i → a < b) ∧ (wd b i < wd a i → b < a) ∧ (wd a i = wd b i → a / 2 ^ (64 * i) = b / 2 ^ (64 * i)) := by
  have h1 : ∀ x, x / 2 ^ (64 * (i + 1)) = x / 2 ^ (64 * i) / 2 ^ 64 := fun x => by rw [show 64 * (i + 1) = 64 * i + 64 by omega, Nat.pow_add, Nat.div_div_eq_div_mul]
  rw [h1, h1] at hlt
  unfold wd
  refine ⟨fun h => ?_, fun h => ?_, fun h => by omega⟩
  · have h2 : a / 2 ^ (64 * i) < b / 2 ^ (64 * i) := by omega
    exact Nat.lt_of_not_le fun h3 => by have := Nat.div_le_div_right (c := 2 ^ (64 * i)) h3; omega
  · have h2 : b / 2 ^ (64 * i) < a / 2 ^ (64 * i) := by omega
    exact Nat.lt_of_not_le fun h3 => by have := Nat.div_le_div_right (c := 2 ^ (64 * i)) h3; omega
theorem order_lt {a b : Nat} (h : a < b) : order a b = -1 := if_pos h
theorem order_gt {a b : Nat} (h : b < a) : order a b = 1 := by unfold order; rw [if_neg (by omega), if_pos h]
theorem order_eq (a : Nat) : order a a = 0 := by unfold order; rw [if_neg (by omega), if_neg (by omega)]

theorem limb_Cmp (a b : Nat) (w : World) (ha : a < 2 ^ 256) (hb : b < 2 ^ 256) :
    Calls Tryd.prog 38 #[numV a, numV b] w fun e w' => e = .returned (.int .i64 (order a b)) ∧ Below w.heap.size w w' := by
  unfold numV
  have hL : Below w.heap.size w ((w.alloc (Obj.cells (arrK .u64 4 (wd a)) 41)).alloc (Obj.cells (arrK .u64 4 (wd b)) 41)) := by go_grown
  have hRa : Row ((w.alloc (Obj.cells (arrK .u64 4 (wd a)) 41)).alloc (Obj.cells (arrK .u64 4 (wd b)) 41)) w.heap.size 4 := (row_old (by simp)).2 ((row_new (by simp)).2 (arrK_size _ _ _))
  have hra : rowAt ((w.alloc (Obj.cells (arrK .u64 4 (wd a)) 41)).alloc (Obj.cells (arrK .u64 4 (wd b)) 41)) w.heap.size = arrK .u64 4 (wd a) := (rowAt_old (by simp)).trans (rowAt_new rfl)
  have hRb : Row ((w.alloc (Obj.cells (arrK .u64 4 (wd a)) 41)).alloc (Obj.cells (arrK .u64 4 (wd b)) 41)) (w.heap.size + 1) 4 := (row_new (by simp)).2 (arrK_size _ _ _)
  have hrb : rowAt ((w.alloc (Obj.cells (arrK .u64 4 (wd a)) 41)).alloc (Obj.cells (arrK .u64 4 (wd b)) 41)) (w.heap.size + 1) = arrK .u64 4 (wd b) := rowAt_new (by simp)
  go_enter Tryd.func38, Tryd.ntmps38
  go_wp2
  generalize ((w.alloc (Obj.cells (arrK .u64 4 (wd a)) 41)).alloc (Obj.cells (arrK .u64 4 (wd b)) 41)) = W0 at *
  go_loopw [5] (fun i wr => ∃ s : Nat, i = .int .i64 ((s : Int) - 1) ∧ s ≤ 4 ∧ Hid (a / 2 ^ (64 * s) = b / 2 ^ (64 * s)) ∧ Row wr w.heap.size 4 ∧ rowAt wr w.heap.size = arrK .u64 4 (wd a) ∧ Row wr (w.heap.size + 1) 4 ∧ rowAt wr (w.heap.size + 1) = arrK .u64 4 (wd b) ∧ Below w.heap.size w wr) (fun i _ => (intOf i + 1).toNat)
  case atStart => exact ⟨4, rfl, by omega, Lib.hid (by rw [Nat.div_eq_of_lt ha, Nat.div_eq_of_lt hb]), hRa, hra, hRb, hrb, hL⟩
  case round =>
    clear hRa hra hRb hrb hL
    obtain ⟨s, rfl, hs, hH, hRa, hra, hRb, hrb, hL⟩ := hrel
    rcases Nat.eq_zero_or_pos s with rfl | hs0
    · have e : a = b := by have := hH.out; simpa using this
      subst e
      have hq := Lib.hid (order_eq a)
      go_wp2
      go_ret
      exact ⟨by rw [hq.out]; rfl, hL⟩
    · obtain ⟨i, rfl⟩ : ∃ i, s = i + 1 := ⟨s - 1, by omega⟩
      rw [show (((i + 1 : Nat) : Int) - 1) = (i : Int) by omega]
      have c1 := hRa.cell i
      rw [hra, arrK_at (by omega)] at c1
      have c2 := hRb.cell i
      rw [hrb, arrK_at (by omega)] at c2
      have ho := order_word hH.out
      have hlt1 := wd_lt a i
      have hlt2 := wd_lt b i
      have hHa := Lib.hid hra
      have hHb := Lib.hid hrb
      have hHo := Lib.hid ho
      clear ho hra hrb hH
      rcases Nat.lt_trichotomy (wd a i) (wd b i) with h | h | h
      · have hq := Lib.hid (order_lt (hHo.out.1 h))
        clear hHo
        generalize wd a i = x at *
        generalize wd b i = y at *
        go_wp2
        go_region
        go_wp2
        go_ret
        exact ⟨by rw [hq.out]; rfl, hL.drew⟩
      · have hq := Lib.hid (hHo.out.2.2 h)
        clear hHo
        rw [← h] at c2
        clear hlt2
        have h1 : (((wd a i : Nat) : Int) < ((wd a i : Nat) : Int)) = False := by simp
        have hh := Lib.hid h
        clear h h1
        generalize wd a i = x at *
        go_wp2
        go_region
        go_wp2
        go_region
        go_wp2
        go_round
        case rel => exact ⟨i, rfl, by omega, hq, hRa, hHa.out, hRb, hHb.out, hL.drew.drew⟩
        case measure => simp [intOf]
      · have hq := Lib.hid (order_gt (hHo.out.2.1 h))
        have hn : ¬ wd a i < wd b i := by omega
        clear hHo
        generalize wd a i = x at *
        generalize wd b i = y at *
        go_wp2
        go_region
        go_wp2
        go_region
        go_wp2
        go_ret
        exact ⟨by rw [hq.out]; rfl, hL.drew.drew⟩

theorem set_twice (c : Array Value) (i : Nat) (u v : Value) : (c.setIfInBounds i u).setIfInBounds i v = c.setIfInBounds i v := by
  apply Array.ext_getElem?
  intro j
  by_cases h : i = j
  · subst h; simp [Array.getElem?_setIfInBounds]
  · simp [h]
theorem shl_words (a v k p : Nat) (hp : p < 4) : wd (a * 2 ^ (64 * v + k) % 2 ^ 256) p = wd (a * 2 ^ (64 * v + k)) p := by
  have := wd_mod (n := a * 2 ^ (64 * v + k)) hp
  rw [Nat.zero_add] at this
  exact this.symm

theorem limb_Shl (a n N : Nat) (w : World) (hn : n ≤ 255) (hN : a * 2 ^ n % 2 ^ 256 = N) :
    Calls Tryd.prog 36 #[numV a, .int .i64 (n : Int)] w fun e w' => e = .returned (numV N) ∧ Below w.heap.size w w' := by
  unfold numV
  have hca := arrK_cells .u64 4 (wd a)
  obtain ⟨v, hv⟩ : ∃ v, v = n / 64 := ⟨_, rfl⟩
  obtain ⟨k, hk⟩ : ∃ k, k = n % 64 := ⟨_, rfl⟩
  have hn' : n = 64 * v + k := by omega
  have hqt : Int.tdiv (n : Int) 64 = v := by rw [Int.tdiv_eq_ediv_of_nonneg (by omega)]; omega
  have hrt : Int.tmod (n : Int) 64 = k := by rw [Int.tmod_eq_emod_of_nonneg (by omega)]; omega
  have hqi : (n : Int) / 64 = v := by omega
  have hri : (n : Int) % 64 = k := by omega
  have hv4 : v < 4 := by omega
  have hk64 : k < 64 := by omega
  have hL : Below w.heap.size w (((w.alloc (Obj.cells (arrK .u64 4 (wd a)) 41)).alloc (Obj.cells (arrK .u64 4 fun _ => 0) 41)).alloc (Obj.cells (arrK .u64 4 fun _ => 0) 41)) := by go_grown
  have hRa : Row (((w.alloc (Obj.cells (arrK .u64 4 (wd a)) 41)).alloc (Obj.cells (arrK .u64 4 fun _ => 0) 41)).alloc (Obj.cells (arrK .u64 4 fun _ => 0) 41)) w.heap.size 4 := by go_simp
  have hra : rowAt (((w.alloc (Obj.cells (arrK .u64 4 (wd a)) 41)).alloc (Obj.cells (arrK .u64 4 fun _ => 0) 41)).alloc (Obj.cells (arrK .u64 4 fun _ => 0) 41)) w.heap.size = arrK .u64 4 (wd a) := by go_simp
  have hRo : Row (((w.alloc (Obj.cells (arrK .u64 4 (wd a)) 41)).alloc (Obj.cells (arrK .u64 4 fun _ => 0) 41)).alloc (Obj.cells (arrK .u64 4 fun _ => 0) 41)) (w.heap.size + 1) 4 := (row_old (by simp)).2 ((row_new (by simp)).2 (arrK_size _ _ _))
  have hRz : Row (((w.alloc (Obj.cells (arrK .u64 4 (wd a)) 41)).alloc (Obj.cells (arrK .u64 4 fun _ => 0) 41)).alloc (Obj.cells (arrK .u64 4 fun _ => 0) 41)) (w.heap.size + 1 + 1) 4 := (row_new (by simp)).2 (arrK_size _ _ _)
  have hrz : rowAt (((w.alloc (Obj.cells (arrK .u64 4 (wd a)) 41)).alloc (Obj.cells (arrK .u64 4 fun _ => 0) 41)).alloc (Obj.cells (arrK .u64 4 fun _ => 0) 41)) (w.heap.size + 1 + 1) = arrK .u64 4 (mixW (wd (a * 2 ^ n)) (fun _ => 0) v) := by
    rw [rowAt_new (by simp)]; exact arrK_congr fun p _ => by
      unfold mixW
      split
      · rename_i h; rw [hn', wd_shl_lt _ _ _ _ h]
      · rfl
  have hfin : arrK .u64 4 (mixW (wd (a * 2 ^ n)) (fun _ => 0) 4) = arrK .u64 4 (wd N) := arrK_congr fun p hp => by
    unfold mixW
    rw [if_pos hp, ← hN, hn', shl_words _ _ _ _ hp]
  have hHfin := Lib.hid hfin
  have hHn := Lib.hid hn'
  have hb1 : ¬ (255 : Int) < n := by omega
  have hb2 : ¬ (n : Int) < -255 := by omega
  have hb3 : (0 : Int) ≤ n := by omega
  rw [← zero4w] at hRa hra hRo hRz hrz hL
  have hF0 : wd (a * 2 ^ n) v = wd a 0 * 2 ^ k % 2 ^ 64 := by rw [hn', wd_shl_eq]
  have hF1 : ∀ t, wd (a * 2 ^ n) (v + (t + 1)) = wd a (t + 1) * 2 ^ k % 2 ^ 64 ||| wd a t / 2 ^ (64 - k) := fun t => by rw [hn', wd_shl_gt _ _ _ _ hk64]
  have hH0 := Lib.hid hF0
  have hH1 := Lib.hid hF1
  clear hv hk hn' hfin hF0 hF1 hHn hN
  generalize wd (a * 2 ^ n) = F at *
  go_enter Tryd.func36, Tryd.ntmps36
  go_wp2
  rw [zero4w] at *
  generalize (((w.alloc (Obj.cells (arrK .u64 4 (wd a)) 41)).alloc (Obj.cells (arrK .u64 4 fun _ => 0) 41)).alloc (Obj.cells (arrK .u64 4 fun _ => 0) 41)) = W0 at *
  go_loopw [8] (fun i wr => ∃ s : Nat, i = .int .i64 s ∧ s ≤ 4 ∧ v ≤ s ∧ Row wr w.heap.size 4 ∧ rowAt wr w.heap.size = arrK .u64 4 (wd a) ∧ Row wr (w.heap.size + 1) 4 ∧ Row wr (w.heap.size + 1 + 1) 4 ∧ rowAt wr (w.heap.size + 1 + 1) = arrK .u64 4 (mixW F (fun _ => 0) s) ∧ Below w.heap.size w wr) (fun i _ => 4 - (intOf i).toNat)
  case atStart => exact ⟨v, rfl, by omega, by omega, hRa, hra, hRo, hRz, hrz, hL⟩
  case round =>
    clear hRa hra hRo hRz hrz hL
    obtain ⟨s, rfl, hs, hvs, hRa, hra, hRo, hRz, hrz, hL⟩ := hrel
    by_cases h4 : s = 4
    · subst h4
      rw [hHfin.out] at hrz
      have hcs := arrK_cells .u64 4 (wd N)
      go_wp2
      exact ret_stored (p := 4) (ty := 41) (g := w.heap.size + 1) (n := 4) (c := arrK .u64 4 (wd N)) rfl Tryd.underlying41 rfl (by kernel_rfl) rfl hRo hcs.1 rfl ⟨rfl, below_setRow hL (by omega)⟩
    · have cc : ∀ j, j < 4 → wr.cell? ⟨w.heap.size, j, none⟩ = some (.int .u64 (wd a j : Nat)) := fun j hj => by rw [hRa.cell, hra, arrK_at hj]
      have c2 := hRz.cell s
      rw [hrz, arrK_at (by omega), show mixW F (fun _ => 0) s s = 0 by unfold mixW; rw [if_neg (by omega)]] at c2
      have hf := hRz.frozen s
      have hra' := Lib.hid hra
      have hrz' := Lib.hid hrz
      clear hra hrz
      by_cases hsv : s = v
      · subst hsv
        have c1 := cc 0 (by omega)
        have hw0 := wd_lt a 0
        have hv : IntKind.u64.wrap (((wd a 0 : Nat) : Int) * 2 ^ k) = ((F s : Nat) : Int) := by
          rw [hH0.out, show ((wd a 0 : Nat) : Int) * 2 ^ k = ((wd a 0 * 2 ^ k : Nat) : Int) by simp, IntKind.wrap_u64]; omega
        have hHv := Lib.hid hv
        clear cc hv hH0 hH1
        generalize wd a 0 = x at *
        go_wp2
        go_round
        case rel => exact ⟨s + 1, by go_num, by omega, by omega, row_setCell.2 hRa, by rw [rowAt_setCell_far (by simp; omega)]; exact hra'.out, row_setCell.2 hRo, row_setCell.2 hRz, by rw [rowAt_setCell_same, hrz'.out, hHv.out, arrK_set, mixW_upd], hL.setCell (by simp; omega) _⟩
        case measure => simp [intOf]; omega
      · obtain ⟨t, ht⟩ : ∃ t, t + 1 = s - v := ⟨s - v - 1, by omega⟩
        have c1 := cc (s - v) (by omega)
        have c3 := cc (s - v - 1) (by omega)
        rw [← ht] at c1
        rw [show s - v - 1 = t by omega] at c3
        have hw0 := wd_lt a (t + 1)
        have hw1 := wd_lt a t
        have hH1' := hH1.out t
        rw [show v + (t + 1) = s by omega] at hH1'
        have hv : bits .or .u64 (IntKind.u64.wrap (((wd a (t + 1) : Nat) : Int) * 2 ^ k)) (((wd a t : Nat) : Int) / 2 ^ (64 - k)) = ((F s : Nat) : Int) := by
          rw [hH1', show ((wd a (t + 1) : Nat) : Int) * 2 ^ k = ((wd a (t + 1) * 2 ^ k : Nat) : Int) by simp, IntKind.wrap_u64,
            show ((wd a (t + 1) * 2 ^ k : Nat) : Int) % 18446744073709551616 = ((wd a (t + 1) * 2 ^ k % 2 ^ 64 : Nat) : Int) by omega,
            show ((wd a t : Nat) : Int) / 2 ^ (64 - k) = ((wd a t / 2 ^ (64 - k) : Nat) : Int) by simp,
            u64_or_nat _ _ (Nat.mod_lt _ (by omega)) (Nat.lt_of_le_of_lt (Nat.div_le_self _ _) hw1)]
        have hHv := Lib.hid hv
        have hs1 : (v : Int) < s := by omega
        have hs2 : (s : Int) - v = ((t + 1 : Nat) : Int) := by omega
        have hs3 : ((t + 1 : Nat) : Int) - 1 = (t : Int) := by omega
        have hw2 : IntKind.i64.wrap ((s : Int) - v) = ((t + 1 : Nat) : Int) := by rw [IntKind.wrap_i64]; omega
        have hw3 : IntKind.i64.wrap (((t + 1 : Nat) : Int) - 1) = (t : Int) := by rw [IntKind.wrap_i64]; omega
        have hw4 : IntKind.u64.wrap ((64 : Int) - k) = (64 : Int) - k := by rw [IntKind.wrap_u64]; omega
        have hw5 : ((64 : Int) - k).toNat = 64 - k := by omega
        have hw6 : ((t + 1 : Nat) : Int) < 4 := by omega
        have hw7 : (t : Int) < 4 := by omega
        clear cc hv hH0 hH1 hH1' ht
        generalize wd a (t + 1) = x at *
        generalize wd a t = y at *
        go_wp2
        go_region
        go_wp2
        go_round
        case rel => exact ⟨s + 1, by go_num, by omega, by omega, row_setCell.2 (row_setCell.2 hRa), by rw [rowAt_drew, rowAt_setCell_far (by simp; omega), rowAt_setCell_far (by simp; omega)]; exact hra'.out, row_setCell.2 (row_setCell.2 hRo), row_setCell.2 (row_setCell.2 hRz), by rw [rowAt_drew, rowAt_setCell_same, rowAt_setCell_same, hrz'.out, hHv.out, set_twice, arrK_set, mixW_upd], ((hL.setCell (by simp; omega) _).setCell (by simp; omega) _).drew⟩
        case measure => simp [intOf]; omega

theorem shr_zero (a n v t : Nat) (ha : a < 2 ^ 256) (hv : 64 * v ≤ n) (ht : 4 ≤ v + t) : wd (a / 2 ^ n) t = 0 := by
  refine wd_ge ?_
  rw [Nat.div_lt_iff_lt_mul (Nat.pow_pos (by omega)), ← Nat.pow_add]
  exact Nat.lt_of_lt_of_le ha (Nat.pow_le_pow_right (by omega) (by omega))

theorem limb_Shr (a n N : Nat) (w : World) (ha : a < 2 ^ 256) (hn : n ≤ 255) (hn0 : 0 < n) (hN : a / 2 ^ n = N) :
    Calls Tryd.prog 36 #[numV a, .int .i64 (-(n : Int))] w fun e w' => e = .returned (numV N) ∧ Below w.heap.size w w' := by
  unfold numV
  have hca := arrK_cells .u64 4 (wd a)
  obtain ⟨v, hv⟩ : ∃ v, v = n / 64 := ⟨_, rfl⟩
  obtain ⟨k, hk⟩ : ∃ k, k = n % 64 := ⟨_, rfl⟩
  have hn' : n = 64 * v + k := by omega
  have hqt : Int.tdiv (n : Int) 64 = v := by rw [Int.tdiv_eq_ediv_of_nonneg (by omega)]; omega
  have hrt : Int.tmod (n : Int) 64 = k := by rw [Int.tmod_eq_emod_of_nonneg (by omega)]; omega
  have hqi : (n : Int) / 64 = v := by omega
  have hri : (n : Int) % 64 = k := by omega
  have hv4 : v < 4 := by omega
  have hk64 : k < 64 := by omega
  have hL : Below w.heap.size w (((w.alloc (Obj.cells (arrK .u64 4 (wd a)) 41)).alloc (Obj.cells (arrK .u64 4 fun _ => 0) 41)).alloc (Obj.cells (arrK .u64 4 fun _ => 0) 41)) := by go_grown
  have hRa : Row (((w.alloc (Obj.cells (arrK .u64 4 (wd a)) 41)).alloc (Obj.cells (arrK .u64 4 fun _ => 0) 41)).alloc (Obj.cells (arrK .u64 4 fun _ => 0) 41)) w.heap.size 4 := by go_simp
  have hra : rowAt (((w.alloc (Obj.cells (arrK .u64 4 (wd a)) 41)).alloc (Obj.cells (arrK .u64 4 fun _ => 0) 41)).alloc (Obj.cells (arrK .u64 4 fun _ => 0) 41)) w.heap.size = arrK .u64 4 (wd a) := by go_simp
  have hRo : Row (((w.alloc (Obj.cells (arrK .u64 4 (wd a)) 41)).alloc (Obj.cells (arrK .u64 4 fun _ => 0) 41)).alloc (Obj.cells (arrK .u64 4 fun _ => 0) 41)) (w.heap.size + 1) 4 := (row_old (by simp)).2 ((row_new (by simp)).2 (arrK_size _ _ _))
  have hRz : Row (((w.alloc (Obj.cells (arrK .u64 4 (wd a)) 41)).alloc (Obj.cells (arrK .u64 4 fun _ => 0) 41)).alloc (Obj.cells (arrK .u64 4 fun _ => 0) 41)) (w.heap.size + 1 + 1) 4 := (row_new (by simp)).2 (arrK_size _ _ _)
  have hrz : rowAt (((w.alloc (Obj.cells (arrK .u64 4 (wd a)) 41)).alloc (Obj.cells (arrK .u64 4 fun _ => 0) 41)).alloc (Obj.cells (arrK .u64 4 fun _ => 0) 41)) (w.heap.size + 1 + 1) = arrK .u64 4 (mixW (wd N) (fun _ => 0) 0) := by
    rw [rowAt_new (by simp)]; exact arrK_congr fun p _ => by
      unfold mixW
      rw [if_neg (by omega)]
  have hfin : arrK .u64 4 (mixW (wd N) (fun _ => 0) (4 - v)) = arrK .u64 4 (wd N) := arrK_congr fun p hp => by
    unfold mixW
    split
    · rfl
    · rw [← hN, shr_zero a n v p ha (by omega) (by omega)]
  have hHfin := Lib.hid hfin
  have hb1 : ¬ (255 : Int) < -(n : Int) := by omega
  have hb2 : ¬ -(n : Int) < -255 := by omega
  have hb3 : ¬ (0 : Int) ≤ -(n : Int) := by omega
  have hb4 : (n : Int) ≤ 255 := by omega
  have hb5 : (0 : Int) < n := by omega
  rw [← zero4w] at hRa hra hRo hRz hrz hL
  have hF1 : ∀ t, wd N t = wd a (v + t) / 2 ^ k ||| wd a (v + t + 1) * 2 ^ (64 - k) % 2 ^ 64 := fun t => by rw [← hN, hn', wd_shr _ _ _ _ hk64]
  have hF3 : wd a (v + (3 - v) + 1) = 0 := wd_ge (Nat.lt_of_lt_of_le ha (Nat.pow_le_pow_right (by omega) (by omega)))
  have hH1 := Lib.hid hF1
  have hH3 := Lib.hid hF3
  clear hv hk hn' hfin hF1 hF3 hN
  generalize wd N = F at *
  go_enter Tryd.func36, Tryd.ntmps36
  go_wp2
  rw [zero4w] at *
  generalize (((w.alloc (Obj.cells (arrK .u64 4 (wd a)) 41)).alloc (Obj.cells (arrK .u64 4 fun _ => 0) 41)).alloc (Obj.cells (arrK .u64 4 fun _ => 0) 41)) = W0 at *
  go_loopw [11] (fun i wr => ∃ s : Nat, i = .int .i64 s ∧ s ≤ 4 ∧ v ≤ s ∧ Row wr w.heap.size 4 ∧ rowAt wr w.heap.size = arrK .u64 4 (wd a) ∧ Row wr (w.heap.size + 1) 4 ∧ Row wr (w.heap.size + 1 + 1) 4 ∧ rowAt wr (w.heap.size + 1 + 1) = arrK .u64 4 (mixW F (fun _ => 0) (s - v)) ∧ Below w.heap.size w wr) (fun i _ => 4 - (intOf i).toNat)
  case atStart => exact ⟨v, rfl, by omega, by omega, hRa, hra, hRo, hRz, by rw [hrz, Nat.sub_self], hL⟩
  case round =>
    clear hRa hra hRo hRz hrz hL
    obtain ⟨s, rfl, hs, hvs, hRa, hra, hRo, hRz, hrz, hL⟩ := hrel
    by_cases h4 : s = 4
    · subst h4
      rw [hHfin.out] at hrz
      have hcs := arrK_cells .u64 4 F
      go_wp2
      exact ret_stored (p := 4) (ty := 41) (g := w.heap.size + 1) (n := 4) (c := arrK .u64 4 F) rfl Tryd.underlying41 rfl (by kernel_rfl) rfl hRo hcs.1 rfl ⟨rfl, below_setRow hL (by omega)⟩
    · have cc : ∀ j, j < 4 → wr.cell? ⟨w.heap.size, j, none⟩ = some (.int .u64 (wd a j : Nat)) := fun j hj => by rw [hRa.cell, hra, arrK_at hj]
      obtain ⟨t, ht⟩ : ∃ t, t = s - v := ⟨_, rfl⟩
      have ht1 : s + 1 - v = t + 1 := by omega
      have ht2 : v + t = s := by omega
      rw [← ht] at hrz
      have c1 := cc s (by omega)
      have c2 := hRz.cell t
      rw [hrz, arrK_at (by omega), show mixW F (fun _ => 0) t t = 0 by unfold mixW; rw [if_neg (by omega)]] at c2
      have hf := hRz.frozen t
      have hw0 := wd_lt a s
      have hra' := Lib.hid hra
      have hrz' := Lib.hid hrz
      have hH1' := hH1.out t
      rw [ht2] at hH1'
      have hHt := Lib.hid ht1
      have hs2 : (s : Int) - v = (t : Int) := by omega
      have hw2 : IntKind.i64.wrap ((s : Int) - v) = (t : Int) := by rw [IntKind.wrap_i64]; omega
      have hw7 : (t : Int) < 4 := by omega
      by_cases h3 : s = 3
      · have hv : ((wd a s : Nat) : Int) / 2 ^ k = ((F t : Nat) : Int) := by
          have h0 := hH3.out
          rw [show v + (3 - v) = s by omega] at h0
          rw [hH1', h0, Nat.zero_mul, Nat.zero_mod, Nat.or_zero]; simp
        have hHv := Lib.hid hv
        have hs3 : ¬ (s : Int) < 3 := by omega
        have hs4 : (s : Int) < 4 := by omega
        clear cc hv hH1 hH1' ht ht2 hra hrz hH3 ht1
        have h3' := Lib.hid h3
        clear h3
        generalize wd a s = x at *
        go_wp2
        go_round
        case rel => exact ⟨s + 1, by go_num, by omega, by omega, row_setCell.2 hRa, by rw [rowAt_setCell_far (by simp; omega)]; exact hra'.out, row_setCell.2 hRo, row_setCell.2 hRz, by rw [rowAt_setCell_same, hrz'.out, hHv.out, arrK_set, mixW_upd, hHt.out], hL.setCell (by simp; omega) _⟩
        case measure => simp [intOf]; omega
      · have c3 := cc (s + 1) (by omega)
        have hw1 := wd_lt a (s + 1)
        have hv : bits .or .u64 (((wd a s : Nat) : Int) / 2 ^ k) (IntKind.u64.wrap (((wd a (s + 1) : Nat) : Int) * 2 ^ (64 - k))) = ((F t : Nat) : Int) := by
          rw [hH1', show ((wd a (s + 1) : Nat) : Int) * 2 ^ (64 - k) = ((wd a (s + 1) * 2 ^ (64 - k) : Nat) : Int) by simp, IntKind.wrap_u64,
            show ((wd a (s + 1) * 2 ^ (64 - k) : Nat) : Int) % 18446744073709551616 = ((wd a (s + 1) * 2 ^ (64 - k) % 2 ^ 64 : Nat) : Int) by omega,
            show ((wd a s : Nat) : Int) / 2 ^ k = ((wd a s / 2 ^ k : Nat) : Int) by simp,
            u64_or_nat _ _ (Nat.lt_of_le_of_lt (Nat.div_le_self _ _) hw0) (Nat.mod_lt _ (by omega))]
        have hHv := Lib.hid hv
        have hs3 : (s : Int) < 3 := by omega
        have hw3 : IntKind.i64.wrap ((s : Int) + 1) = (s : Int) + 1 := by rw [IntKind.wrap_i64]; omega
        have hw4 : IntKind.u64.wrap ((64 : Int) - k) = (64 : Int) - k := by rw [IntKind.wrap_u64]; omega
        have hw5 : ((64 : Int) - k).toNat = 64 - k := by omega
        have hw6 : (s : Int) + 1 < 4 := by omega
        have hw8 : ((s : Int) + 1).toNat = s + 1 := by omega
        clear cc hv hH1 hH1' ht ht2 hra hrz hH3 ht1
        generalize wd a (s + 1) = x at *
        generalize wd a s = y at *
        go_wp2
        go_region
        go_wp2
        go_round
        case rel => exact ⟨s + 1, by go_num, by omega, by omega, row_setCell.2 (row_setCell.2 hRa), by rw [rowAt_drew, rowAt_setCell_far (by simp; omega), rowAt_setCell_far (by simp; omega)]; exact hra'.out, row_setCell.2 (row_setCell.2 hRo), row_setCell.2 (row_setCell.2 hRz), by rw [rowAt_drew, rowAt_setCell_same, rowAt_setCell_same, hrz'.out, hHv.out, set_twice, arrK_set, mixW_upd, hHt.out], ((hL.setCell (by simp; omega) _).setCell (by simp; omega) _).drew⟩
        case measure => simp [intOf]; omega
end Go.Proofs.YtdlmamnnamlleaaDoor
namespace Go.Proofs.YtdlmamnnamlleaaDoor
open Go.ChangeShapes Go.WideShapes Go.ChangeAt Go.RowKit
set_option maxHeartbeats 1000000
set_option maxRecDepth 100000
attribute [local go_sem ↓] load_num store_num execl_num execs_num load_wide store_wide execl_wide execs_wide
attribute [local go_sem] isHead_mk blkOf_mk isAgg_mk cellsV_mk row_drew rowAt_drew row_new_cells row_old rowAt_new rowAt_old

theorem call_add64 (x y b : Nat) (hb : b ≤ 1) (w : World) :
    (callFunc 108 #[.int .u64 x, .int .u64 y, .int .u64 b]).run Tryd.prog w =
      .ok (.value (.tuple #[.int .u64 (((x + y + b) % 18446744073709551616 : Nat) : Int), .int .u64 (((x + y + b) / 18446744073709551616 : Nat) : Int)])) w := by
  rw [run_callFunc_extern Tryd.func108 (by kernel_rfl) (by kernel_rfl) (by kernel_rfl) (e := add64Entry) (by kernel_rfl), run_add64 _ _ _ (by omega) (by omega) (by omega) (by omega)]
  have e1 : ((x : Int) + y + b) % 18446744073709551616 = (((x + y + b) % 18446744073709551616 : Nat) : Int) := by omega
  have e2 : ((x : Int) + y + b) / 18446744073709551616 = (((x + y + b) / 18446744073709551616 : Nat) : Int) := by omega
  rw [e1, e2]
  rfl
/-- The carry ahead of word k; word k of the sum. -/
def car (f g : Nat → Nat) : Nat → Nat
  | 0 => 0
  | k + 1 => (f k + g k + car f g k) / 18446744073709551616
def sumW (f g : Nat → Nat) (k : Nat) : Nat := (f k + g k + car f g k) % 18446744073709551616
theorem car_le {f g : Nat → Nat} (hf : ∀ i, f i < 18446744073709551616) (hg : ∀ i, g i < 18446744073709551616) (k : Nat) : car f g k ≤ 1 := by
  induction k with
  | zero => simp [car]
  | succ k ih => have h1 := hf k; have h2 := hg k; unfold car; omega
theorem sumW_lt (f g : Nat → Nat) (k : Nat) : sumW f g k < 18446744073709551616 := Nat.mod_lt _ (by omega)
theorem sum_wval (f g : Nat → Nat) (n : Nat) : wval (sumW f g) n + 2 ^ (64 * n) * car f g n = wval f n + wval g n := by
  induction n with
  | zero => simp [wval, car]
  | succ n ih =>
    have h5 : sumW f g n + 18446744073709551616 * car f g (n + 1) = f n + g n + car f g n := by unfold sumW; rw [show car f g (n + 1) = (f n + g n + car f g n) / 18446744073709551616 from rfl]; omega
    simp only [wval]
    rw [show 64 * (n + 1) = 64 * n + 64 by omega, Nat.pow_add]
    generalize 2 ^ (64 * n) = P at *
    have h6 : P * (sumW f g n + 18446744073709551616 * car f g (n + 1)) = P * (f n + g n + car f g n) := by rw [h5]
    rw [Nat.mul_add, Nat.mul_add, Nat.mul_add] at h6
    rw [Nat.mul_assoc, show (2 : Nat) ^ 64 = 18446744073709551616 from rfl]
    omega
def addN (a b : Nat) : Nat := (a + b) % 2 ^ 256
def overN (a b : Nat) : Nat := if a + b < 2 ^ 256 then 0 else 1
theorem sum_add {a b : Nat} (ha : a < 2 ^ 256) (hb : b < 2 ^ 256) : wval (sumW (wd a) (wd b)) 4 = addN a b ∧ car (wd a) (wd b) 4 = overN a b := by
  have h := sum_wval (wd a) (wd b) 4
  rw [wval_wd, wval_wd, show 64 * 4 = 256 from rfl, Nat.mod_eq_of_lt ha, Nat.mod_eq_of_lt hb] at h
  have h1 := car_le (wd_lt a) (wd_lt b) 4
  have h2 := wval_lt (f := sumW (wd a) (wd b)) (k := 4) fun i _ => sumW_lt _ _ i
  rw [show 64 * 4 = 256 from rfl] at h2
  unfold addN overN
  generalize (2 : Nat) ^ 256 = P at *
  have : car (wd a) (wd b) 4 = 0 ∨ car (wd a) (wd b) 4 = 1 := by omega
  rcases this with e | e
  · rw [e] at h ⊢
    simp only [Nat.mul_zero, Nat.add_zero] at h
    rw [if_pos (by omega), Nat.mod_eq_of_lt (by omega)]
    exact ⟨h, rfl⟩
  · rw [e] at h ⊢
    simp only [Nat.mul_one] at h
    rw [if_neg (by omega), ← h, Nat.add_mod_right, Nat.mod_eq_of_lt h2]
    exact ⟨rfl, rfl⟩

theorem limb_Add (a b : Nat) (w : World) (ha : a < 2 ^ 256) (hb : b < 2 ^ 256) :
    Calls Tryd.prog 79 #[numV a, numV b] w fun e w' => e = .returned (.tuple #[numV (addN a b), .int .u64 (overN a b : Nat)]) ∧ Below w.heap.size w w' := by
  unfold numV
  have hL : Below w.heap.size w (((w.alloc (Obj.cells (arrK .u64 4 (wd a)) 41)).alloc (Obj.cells (arrK .u64 4 (wd b)) 41)).alloc (Obj.cells (arrK .u64 4 (wd 0)) 41)) := by go_grown
  have hA : At (((w.alloc (Obj.cells (arrK .u64 4 (wd a)) 41)).alloc (Obj.cells (arrK .u64 4 (wd b)) 41)).alloc (Obj.cells (arrK .u64 4 (wd 0)) 41)) w.heap.size .u64 4 (mixW (sumW (wd a) (wd b)) (wd a) 0) := (((At.new _ rfl).old _).old _).congr fun i _ => by simp [mixW]
  have hB : NumAt (((w.alloc (Obj.cells (arrK .u64 4 (wd a)) 41)).alloc (Obj.cells (arrK .u64 4 (wd b)) 41)).alloc (Obj.cells (arrK .u64 4 (wd 0)) 41)) (w.heap.size + 1) b := (At.new _ (by simp)).old _
  have hO : Row (((w.alloc (Obj.cells (arrK .u64 4 (wd a)) 41)).alloc (Obj.cells (arrK .u64 4 (wd b)) 41)).alloc (Obj.cells (arrK .u64 4 (wd 0)) 41)) (w.heap.size + 1 + 1) 4 := (At.new (k := .u64) (f := wd 0) _ (by simp)).row
  rw [← zeroNum] at *
  go_enter Tryd.func79, Tryd.ntmps79
  go_wp2
  generalize (((w.alloc (Obj.cells (arrK .u64 4 (wd a)) 41)).alloc (Obj.cells (arrK .u64 4 (wd b)) 41)).alloc (Obj.cells _ 41)) = W0 at *
  go_loopw [6, 8] (fun c i wr => ∃ k : Nat, i = .int .i64 k ∧ k ≤ 4 ∧ c = .int .u64 (car (wd a) (wd b) k : Nat) ∧ At wr w.heap.size .u64 4 (mixW (sumW (wd a) (wd b)) (wd a) k) ∧ NumAt wr (w.heap.size + 1) b ∧ Row wr (w.heap.size + 1 + 1) 4 ∧ Below w.heap.size w wr) (fun _ i _ => 4 - (intOf i).toNat)
  case atStart => exact ⟨0, rfl, by omega, rfl, hA, hB, hO, hL⟩
  case round =>
    clear hA hB hO hL
    obtain ⟨k, rfl, hk, rfl, hA, hB, hO, hL⟩ := hrel
    by_cases h4 : k = 4
    · subst h4
      have hds := sum_add ha hb
      have hA' : At wr w.heap.size .u64 4 (wd (addN a b)) := hA.congr fun i hi => by
        unfold mixW
        rw [if_pos hi, ← hds.1, wd_wval (fun i _ => sumW_lt _ _ i) i hi]
      have hRa := hA'.row
      have hra := hA'.eq
      have hcs := arrK_cells .u64 4 (wd (addN a b))
      rw [hds.2]
      clear hds hA hA'
      go_wp2
      exact ret_stored2 (p := 4) (q := 5) (ty := 41) (g := w.heap.size + 1 + 1) (n := 4) (c := arrK .u64 4 (wd (addN a b))) rfl Tryd.underlying41 rfl (by kernel_rfl) rfl hO hcs.1 rfl ⟨rfl, below_setRow hL (by omega)⟩
    · have c1 := hA.cell (i := k) (by omega)
      have c2 := hB.cell (i := k) (by omega)
      have hf := hA.row.frozen k
      have e1 : mixW (sumW (wd a) (wd b)) (wd a) k k = wd a k := by unfold mixW; rw [if_neg (by omega)]
      rw [e1] at c1
      have hbl := car_le (wd_lt a) (wd_lt b) k
      have hcall := fun W => call_add64 (wd a k) (wd b k) (car (wd a) (wd b) k) hbl W
      rw [show ((wd a k + wd b k + car (wd a) (wd b) k) % 18446744073709551616) = sumW (wd a) (wd b) k from rfl, show (wd a k + wd b k + car (wd a) (wd b) k) / 18446744073709551616 = car (wd a) (wd b) (k + 1) from rfl] at hcall
      clear hbl e1
      generalize sumW (wd a) (wd b) = d at *
      generalize car (wd a) (wd b) = bb at *
      go_wp2
      go_region
      go_wp2
      go_round
      case rel => exact ⟨k + 1, by go_num, by omega, rfl, ((hA.set k (d k)).congr fun i _ => by rw [mixW_upd]).drew, (hB.farC (by simp)).drew, row_setCell.2 hO, (hL.setCell (Nat.le_refl _) _).drew⟩
      case measure => simp [intOf]; omega

theorem w_mask (a : Nat) (ha : a < 18446744073709551616) : bits .and .u64 (a : Int) 4294967295 = ((a % 4294967296 : Nat) : Int) := by
  rw [show (4294967295 : Int) = ((4294967295 : Nat) : Int) from rfl, u64_and_nat a 4294967295 ha (by omega), show (4294967295 : Nat) = 2 ^ 32 - 1 from rfl, Nat.and_two_pow_sub_one_eq_mod]
theorem w_wrap (a : Nat) : IntKind.u64.wrap (a : Int) = ((a % 18446744073709551616 : Nat) : Int) := by rw [IntKind.wrap_u64]; omega
theorem bits_Mul64 (x y : Nat) (w : World) (hx : x < 18446744073709551616) (hy : y < 18446744073709551616) :
    Calls Tryd.prog 120 #[.int .u64 x, .int .u64 y] w fun e w' => e = .returned (.tuple #[.int .u64 (x * y / 18446744073709551616 : Nat), .int .u64 (x * y % 18446744073709551616 : Nat)]) ∧ w = w' := by
  obtain ⟨b1, b2, b3, hhi⟩ := Lib.mul64_hi x y hx hy
  have ba := Lib.half_mul_le (a := x / 4294967296) (b := y / 4294967296) (by omega) (by omega)
  have bb := Lib.half_mul_le (a := x / 4294967296) (b := y % 4294967296) (by omega) (by omega)
  have bc := Lib.half_mul_le (a := x % 4294967296) (b := y / 4294967296) (by omega) (by omega)
  have hq : x * y / 18446744073709551616 < 18446744073709551616 := (Nat.div_lt_iff_lt_mul (by omega)).2 (Nat.mul_lt_mul'' hx hy)
  go_enter Tryd.func120, Tryd.ntmps120
  go_wp2
  have bb' : x / 4294967296 * (y % 4294967296) < 18446744073709551616 := by omega
  have ba' : x / 4294967296 * (y / 4294967296) < 18446744073709551616 := by omega
  have bc' : x % 4294967296 * (y / 4294967296) < 18446744073709551616 := by omega
  have b4 : x / 4294967296 * (y / 4294967296) + (x / 4294967296 * (y % 4294967296) + x % 4294967296 * (y % 4294967296) / 4294967296) / 4294967296 < 18446744073709551616 := by omega
  have b5 : x / 4294967296 * (y / 4294967296) + (x / 4294967296 * (y % 4294967296) + x % 4294967296 * (y % 4294967296) / 4294967296) / 4294967296 + ((x / 4294967296 * (y % 4294967296) + x % 4294967296 * (y % 4294967296) / 4294967296) % 4294967296 + x % 4294967296 * (y / 4294967296)) / 4294967296 < 18446744073709551616 := by rw [hhi]; exact hq
  have dv : ∀ a : Nat, (a : Int) / 4294967296 = ((a / 4294967296 : Nat) : Int) := fun a => by omega
  have ml : ∀ a b : Nat, (a : Int) * (b : Int) = ((a * b : Nat) : Int) := fun a b => (Int.natCast_mul a b).symm
  have ad : ∀ a b : Nat, (a : Int) + (b : Int) = ((a + b : Nat) : Int) := fun a b => (Int.natCast_add a b).symm
  have wr : ∀ a : Nat, a < 18446744073709551616 → IntKind.u64.wrap (a : Int) = (a : Int) := fun a h => by rw [IntKind.wrap_u64]; omega
  simp only [w_mask x hx, w_mask y hy, dv, ml, ad, wr _ b1, wr _ bb', wr _ b2, w_mask _ b2, wr _ bc', wr _ b3, wr _ ba', wr _ b4, wr _ b5, w_wrap (x * y)]
  rw [hhi]
  go_ret2
  exact ⟨rfl, rfl⟩

theorem step_bound {a b c d : Nat} (ha : a < 18446744073709551616) (hb : b < 18446744073709551616) (hc : c < 18446744073709551616) (hd : d < 18446744073709551616) : a * b + c + d < 18446744073709551616 * 18446744073709551616 := by
  have h : a * b ≤ 18446744073709551615 * 18446744073709551615 := Nat.mul_le_mul (by omega) (by omega)
  omega
theorem limb_step (a b c d : Nat) (w : World) (ha : a < 18446744073709551616) (hb : b < 18446744073709551616) (hc : c < 18446744073709551616) (hd : d < 18446744073709551616) :
    Calls Tryd.prog 111 #[.int .u64 a, .int .u64 b, .int .u64 c, .int .u64 d] w fun e w' => e = .returned (.tuple #[.int .u64 ((a * b + c + d) % 18446744073709551616 : Nat), .int .u64 ((a * b + c + d) / 18446744073709551616 : Nat)]) ∧ w = w' := by
  have hm := Lib.hid (bits_Mul64 a b w ha hb)
  have hbd := step_bound ha hb hc hd
  obtain ⟨p, hp⟩ : ∃ p, p = a * b := ⟨_, rfl⟩
  rw [← hp] at hm hbd ⊢
  clear hp ha hb
  obtain ⟨l, hl⟩ : ∃ l, l = p % 18446744073709551616 := ⟨_, rfl⟩
  obtain ⟨u, hu⟩ : ∃ u, u = p / 18446744073709551616 := ⟨_, rfl⟩
  rw [← hl, ← hu] at hm
  have h1 := Lib.hid (fun W => call_add64 l c 0 (by omega) W)
  have hll : l < 18446744073709551616 := by omega
  obtain ⟨l2, hl2⟩ : ∃ l2, l2 = (l + c + 0) % 18446744073709551616 := ⟨_, rfl⟩
  obtain ⟨o2, ho2⟩ : ∃ o2, o2 = (l + c + 0) / 18446744073709551616 := ⟨_, rfl⟩
  rw [← hl2, ← ho2] at h1
  have h2 := Lib.hid (fun W => call_add64 l2 d 0 (by omega) W)
  obtain ⟨l3, hl3⟩ : ∃ l3, l3 = (l2 + d + 0) % 18446744073709551616 := ⟨_, rfl⟩
  obtain ⟨o3, ho3⟩ : ∃ o3, o3 = (l2 + d + 0) / 18446744073709551616 := ⟨_, rfl⟩
  rw [← hl3, ← ho3] at h2
  have hw1 : IntKind.u64.wrap ((u : Int) + o2) = (u : Int) + o2 := by rw [IntKind.wrap_u64]; omega
  have hw2 : IntKind.u64.wrap ((u : Int) + o2 + o3) = ((u + o2 + o3 : Nat) : Int) := by rw [IntKind.wrap_u64]; omega
  have hr1 := Lib.hid (show l3 = (p + c + d) % 18446744073709551616 by omega)
  have hr2 := Lib.hid (show u + o2 + o3 = (p + c + d) / 18446744073709551616 by omega)
  have hlt2 : l2 < 18446744073709551616 := by omega
  have ho2' : o2 ≤ 1 := by omega
  have ho3' : o3 ≤ 1 := by omega
  have k1 := h1.out
  have k2 := h2.out
  rw [show ((0 : Nat) : Int) = 0 from rfl] at k1 k2
  clear hl hu hl2 ho2 hl3 ho3 hbd h1 h2
  go_enter Tryd.func111, Tryd.ntmps111
  go_wp2_with fail
  refine hm.out.mono ?_
  rintro e w' ⟨rfl, rfl⟩
  go_wp2
  go_ret2
  refine ⟨?_, rfl⟩
  show Ending.returned (.tuple #[.int .u64 (l3 : Int), .int .u64 ((u : Int) + o2 + o3)]) = _
  rw [← hr1.out, ← hr2.out, Int.natCast_add, Int.natCast_add]

/-! Mul -/
/-- Words of one number beside those of another, from place i on. -/
theorem wval_split (f : Nat → Nat) (i n : Nat) : wval f (i + n) = wval f i + 2 ^ (64 * i) * wval (fun j => f (i + j)) n := by
  induction n with
  | zero => simp [wval]
  | succ n ih =>
    show wval f (i + n) + 2 ^ (64 * (i + n)) * f (i + n) = _
    rw [ih]
    simp only [wval]
    rw [Nat.mul_add 64, Nat.pow_add, Nat.mul_add, Nat.mul_assoc, Nat.add_assoc]
theorem upd_wval (f : Nat → Nat) (j v : Nat) : ∀ n, j < n → wval (upd f j v) n + 2 ^ (64 * j) * f j = wval f n + 2 ^ (64 * j) * v
  | 0, h => by omega
  | n + 1, h => by
    simp only [wval]
    by_cases e : j = n
    · subst e
      have h1 : wval (upd f j v) j = wval f j := wval_congr fun i hi => by unfold upd; rw [if_neg (by omega)]
      rw [h1]; unfold upd; rw [if_pos rfl]; omega
    · have h2 := upd_wval f j v n (by omega)
      have h3 : upd f j v n = f n := by unfold upd; rw [if_neg (by omega)]
      rw [h3]; omega
/-- What Mul has behind i rows and k steps of the next: out, carry. -/
structure MulI (a b i k : Nat) (f : Nat → Nat) (c : Nat) : Prop where
  lt : ∀ j, f j < 18446744073709551616
  cl : c < 18446744073709551616
  zero : ∀ j, i + 4 ≤ j → f j = 0
  eq : wval f 8 + 2 ^ (64 * (i + k)) * c = a % 2 ^ (64 * i) * b + 2 ^ (64 * i) * wd a i * (b % 2 ^ (64 * k))
theorem wval_zero (n : Nat) : wval (fun _ => 0) n = 0 := by
  induction n with
  | zero => rfl
  | succ n ih => show wval _ n + 2 ^ (64 * n) * 0 = 0; rw [ih, Nat.mul_zero]
theorem MulI.start (a b : Nat) : MulI a b 0 0 (fun _ => 0) 0 := ⟨fun _ => by omega, by omega, fun _ _ => rfl, by rw [wval_zero]; simp only [Nat.mul_zero, Nat.pow_zero, Nat.mod_one, Nat.zero_mul]⟩
theorem mod_up (b k : Nat) : b % 2 ^ (64 * (k + 1)) = b % 2 ^ (64 * k) + 2 ^ (64 * k) * wd b k := by
  rw [show 64 * (k + 1) = 64 * k + 64 by omega, Nat.pow_add, Nat.mod_mul]; rfl
theorem MulI.step {a b i k c : Nat} {f : Nat → Nat} (h : MulI a b i k f c) (hk : k < 4) (hi : i < 4) :
    MulI a b i (k + 1) (upd f (i + k) ((wd a i * wd b k + f (i + k) + c) % 18446744073709551616)) ((wd a i * wd b k + f (i + k) + c) / 18446744073709551616) := by
  have hb := step_bound (wd_lt a i) (wd_lt b k) (h.lt (i + k)) h.cl
  refine ⟨fun j => ?_, by omega, fun j hj => ?_, ?_⟩
  · unfold upd; split
    · omega
    · exact h.lt j
  · unfold upd; rw [if_neg (by omega)]; exact h.zero j hj
  · have h1 := upd_wval f (i + k) ((wd a i * wd b k + f (i + k) + c) % 18446744073709551616) 8 (by omega)
    have h2 := h.eq
    have h3 : (wd a i * wd b k + f (i + k) + c) % 18446744073709551616 + 18446744073709551616 * ((wd a i * wd b k + f (i + k) + c) / 18446744073709551616) = wd a i * wd b k + f (i + k) + c := Nat.mod_add_div _ _
    rw [mod_up, show 64 * (i + (k + 1)) = 64 * (i + k) + 64 by omega, Nat.pow_add, Nat.mul_assoc, show (2 : Nat) ^ 64 = 18446744073709551616 from rfl, Nat.mul_add (2 ^ (64 * i) * wd a i)]
    have h4 : 2 ^ (64 * i) * wd a i * (2 ^ (64 * k) * wd b k) = 2 ^ (64 * (i + k)) * (wd a i * wd b k) := by
      rw [Nat.mul_add 64, Nat.pow_add]; ac_rfl
    rw [h4]
    generalize 2 ^ (64 * (i + k)) = P at *
    generalize wd a i * wd b k = p at *
    generalize (p + f (i + k) + c) % 18446744073709551616 = lo at *
    generalize (p + f (i + k) + c) / 18446744073709551616 = hi' at *
    have h5 : P * (lo + 18446744073709551616 * hi') = P * (p + f (i + k) + c) := by rw [h3]
    rw [Nat.mul_add, Nat.mul_add, Nat.mul_add] at h5
    omega
theorem MulI.row {a b i c : Nat} {f : Nat → Nat} (h : MulI a b i 4 f c) (hi : i < 4) (hb : b < 2 ^ 256) : MulI a b (i + 1) 0 (upd f (i + 4) c) 0 := by
  refine ⟨fun j => ?_, by omega, fun j hj => ?_, ?_⟩
  · unfold upd; split
    · exact h.cl
    · exact h.lt j
  · unfold upd; rw [if_neg (by omega)]; exact h.zero j (by omega)
  · have h1 := upd_wval f (i + 4) c 8 (by omega)
    rw [h.zero (i + 4) (by omega)] at h1
    have h2 := h.eq
    rw [show 64 * 4 = 256 from rfl, Nat.mod_eq_of_lt hb] at h2
    rw [mod_up a i, Nat.mul_zero, Nat.mul_zero, Nat.pow_zero, Nat.mod_one, Nat.mul_zero, Nat.add_mul]
    omega
theorem MulI.done {a b : Nat} {f : Nat → Nat} (h : MulI a b 4 0 f 0) (ha : a < 2 ^ 256) : ∀ j < 8, f j = wd (a * b) j := by
  have h2 := h.eq
  rw [show 64 * 4 = 256 from rfl, Nat.mod_eq_of_lt ha, Nat.mul_zero 64, Nat.pow_zero, Nat.mod_one, Nat.mul_zero] at h2
  simp only [Nat.add_zero] at h2
  intro j hj
  rw [← h2, wd_wval (fun i _ => h.lt i) j hj]

theorem limb_Mul (a b : Nat) (w : World) (ha : a < 2 ^ 256) (hb : b < 2 ^ 256) :
    Calls Tryd.prog 82 #[numV a, numV b] w fun e w' => e = .returned (wideV (a * b)) ∧ Below w.heap.size w w' := by
  unfold numV wideV
  have hL : Below w.heap.size w ((((w.alloc (Obj.cells (arrK .u64 4 (wd a)) 41)).alloc (Obj.cells (arrK .u64 4 (wd b)) 41)).alloc (Obj.cells (arrK .u64 8 (wd 0)) 154)).alloc (Obj.cells (arrK .u64 8 (wd 0)) 154)) := by go_grown
  have hA : NumAt ((((w.alloc (Obj.cells (arrK .u64 4 (wd a)) 41)).alloc (Obj.cells (arrK .u64 4 (wd b)) 41)).alloc (Obj.cells (arrK .u64 8 (wd 0)) 154)).alloc (Obj.cells (arrK .u64 8 (wd 0)) 154)) w.heap.size a := (((At.new _ rfl).old _).old _).old _
  have hB : NumAt ((((w.alloc (Obj.cells (arrK .u64 4 (wd a)) 41)).alloc (Obj.cells (arrK .u64 4 (wd b)) 41)).alloc (Obj.cells (arrK .u64 8 (wd 0)) 154)).alloc (Obj.cells (arrK .u64 8 (wd 0)) 154)) (w.heap.size + 1) b := ((At.new _ (by simp)).old _).old _
  have hO : Row ((((w.alloc (Obj.cells (arrK .u64 4 (wd a)) 41)).alloc (Obj.cells (arrK .u64 4 (wd b)) 41)).alloc (Obj.cells (arrK .u64 8 (wd 0)) 154)).alloc (Obj.cells (arrK .u64 8 (wd 0)) 154)) (w.heap.size + 1 + 1) 8 := ((At.new (k := .u64) (f := wd 0) _ (by simp)).old _).row
  have hF : At ((((w.alloc (Obj.cells (arrK .u64 4 (wd a)) 41)).alloc (Obj.cells (arrK .u64 4 (wd b)) 41)).alloc (Obj.cells (arrK .u64 8 (wd 0)) 154)).alloc (Obj.cells (arrK .u64 8 (wd 0)) 154)) (w.heap.size + 1 + 1 + 1) .u64 8 (fun _ => 0) := (At.new (k := .u64) (f := wd 0) _ (by simp)).congr fun i _ => wd_zero i
  rw [← zeroWide] at *
  go_enter Tryd.func82, Tryd.ntmps82
  go_wp2
  generalize ((((w.alloc (Obj.cells (arrK .u64 4 (wd a)) 41)).alloc (Obj.cells (arrK .u64 4 (wd b)) 41)).alloc (Obj.cells _ 154)).alloc (Obj.cells _ 154)) = W0 at *
  go_loopw [9] (fun i wr => ∃ (k : Nat) (f : Nat → Nat), i = .int .i64 k ∧ k ≤ 4 ∧ NumAt wr w.heap.size a ∧ NumAt wr (w.heap.size + 1) b ∧ Row wr (w.heap.size + 1 + 1) 8 ∧ At wr (w.heap.size + 1 + 1 + 1) .u64 8 f ∧ Below w.heap.size w wr ∧ Hid (MulI a b k 0 f 0)) (fun i _ => 4 - (intOf i).toNat)
  case atStart => exact ⟨0, fun _ => 0, rfl, by omega, hA, hB, hO, hF, hL, Lib.hid (MulI.start a b)⟩
  case round =>
    clear hA hB hO hF hL
    obtain ⟨i, f, rfl, hi, hA, hB, hO, hF, hL, hI⟩ := hrel
    by_cases h4 : i = 4
    · subst h4
      have hF' := hF.congr (hI.out.done ha)
      have hRf := hF'.row
      have hrf := hF'.eq
      have hcs := arrK_cells .u64 8 (wd (a * b))
      obtain ⟨N, hN⟩ : ∃ N, N = wd (a * b) := ⟨_, rfl⟩
      rw [← hN] at hrf hcs
      have hHN := Lib.hid hN
      clear hN hF hF' hI
      go_wp2
      exact ret_stored (p := 4) (ty := 154) (g := w.heap.size + 1 + 1) (n := 8) (c := arrK .u64 8 N) rfl Tryd.underlying154 rfl (by kernel_rfl) rfl hO hcs.1 rfl ⟨by rw [hHN.out], below_setRow hL (by omega)⟩
    · have hi0 : (i : Int) < 4 := by omega
      go_wp2
      obtain ⟨wo, rfl⟩ : ∃ wo : World, wo = wr := ⟨_, rfl⟩
      go_loopw [7, 12] (fun c k wr => ∃ (k' c' : Nat) (f : Nat → Nat), k = .int .i64 k' ∧ c = .int .u64 c' ∧ k' ≤ 4 ∧ NumAt wr w.heap.size a ∧ NumAt wr (w.heap.size + 1) b ∧ Row wr (w.heap.size + 1 + 1) 8 ∧ At wr (w.heap.size + 1 + 1 + 1) .u64 8 f ∧ Below w.heap.size w wr ∧ Hid (MulI a b i k' f c')) (fun _ k _ => 4 - (intOf k).toNat)
      case atStart => exact ⟨0, 0, f, rfl, rfl, by omega, hA, hB, hO, hF, hL, hI⟩
      case round =>
        clear hA hB hO hF hL hI f
        obtain ⟨k, c, f, rfl, rfl, hk, hA, hB, hO, hF, hL, hI⟩ := hrel
        by_cases hk4 : k = 4
        · subst hk4
          have hI2 := Lib.hid (hI.out.row (by omega) hb)
          have co := hF.cell (i := i + 4) (by omega)
          have fo := hF.row.frozen (i + 4)
          have hi4 : (i : Int) + 4 < 8 := by omega
          clear hI
          go_wp2
          go_roundw
          case rel => exact ⟨i + 1, upd f (i + 4) c, by go_num, by omega, hA.farC (by simp <;> omega), hB.farC (by simp <;> omega), row_setCell.2 hO, hF.set (i + 4) c, hL.setCell (by simp <;> omega) _, hI2⟩
          case measure => simp [intOf]; omega
        · have hI2 := Lib.hid (hI.out.step (by omega) (by omega))
          have ca := hA.cell (i := i) (by omega)
          have cb := hB.cell (i := k) (by omega)
          have co := hF.cell (i := i + k) (by omega)
          have fo := hF.row.frozen (i + k)
          have hcon := Lib.hid (fun W => limb_step (wd a i) (wd b k) (f (i + k)) c W (wd_lt a i) (wd_lt b k) (hI.out.lt _) hI.out.cl)
          obtain ⟨lo, hlo⟩ : ∃ lo, lo = (wd a i * wd b k + f (i + k) + c) % 18446744073709551616 := ⟨_, rfl⟩
          obtain ⟨up, hup⟩ : ∃ up, up = (wd a i * wd b k + f (i + k) + c) / 18446744073709551616 := ⟨_, rfl⟩
          rw [← hlo, ← hup] at hcon hI2
          have hw1 : IntKind.i64.wrap ((i : Int) + k) = (i : Int) + k := by rw [IntKind.wrap_i64]; omega
          have hw2 : (0 : Int) ≤ (i : Int) + k := by omega
          have hw3 : (i : Int) + k < 8 := by omega
          have hw4 : ((i : Int) + k).toNat = i + k := by omega
          have hk0 : (k : Int) < 4 := by omega
          clear hlo hup hI
          go_wp2
          go_region_law (first
            | (go_simp; go_at_call 111; (refine Calls.mono (hcon.out _) ?_); rintro e w' ⟨rfl, rfl⟩))
          all_goals
            clear hw1 hw2 hw3 hw4 ca cb co fo hcon
            go_wp2
            go_roundw
            case rel => exact ⟨k + 1, up, upd f (i + k) lo, by go_num, rfl, by omega, (hA.farC (by simp <;> omega)).drew, (hB.farC (by simp <;> omega)).drew, row_setCell.2 hO, (hF.set (i + k) lo).drew, (hL.setCell (by simp <;> omega) _).drew, hI2⟩
            case measure => simp [intOf]; omega
end Go.Proofs.YtdlmamnnamlleaaDoor
namespace Go.Proofs.YtdlmamnnamlleaaDoor
open Go Go.RowKit
theorem ret_cct {P : Program} {fn : Func} {R : Ending → World → Prop} {a : Act} {w : World} {p q s : Tmp} {ty ty2 : TypeId} {g n g2 n2 : Nat} {d d2 : TypeDesc} (h : fn.results = #[.cell p ty, .cell q ty2, .tmp s])
    (hu : P.underlying ty = some d) (hd : (match d with | .struct _ | .array _ _ => true | _ => false) = true) (hi : (P.info? ty).map (·.size) = some n)
    (hu2 : P.underlying ty2 = some d2) (hd2 : (match d2 with | .struct _ | .array _ _ => true | _ => false) = true) (hi2 : (P.info? ty2).map (·.size) = some n2)
    (hp : a.tmps.getD p undef = .pointer (some ⟨g, 0, none⟩)) (hq : a.tmps.getD q undef = .pointer (some ⟨g2, 0, none⟩)) (hr : Row w g n) (hr2 : Row w g2 n2) (hf : a.defers = [])
    (hR : R (.returned (.tuple #[.agg (rowAt w g), .agg (rowAt w g2), a.tmps.getD s undef])) w) : bodyPost P fn R .ret a w := by
  obtain ⟨cs, t, hg, hs⟩ := hr
  obtain ⟨cs2, t2, hg2, hs2⟩ := hr2
  have e : rowAt w g = cs := by simp [rowAt, hg]
  have e2 : rowAt w g2 = cs2 := by simp [rowAt, hg2]
  rw [e, e2] at hR
  refine bodyPost_ret ?_ hf hR
  have hp' : a.tmps[p]?.getD undef = .pointer (some ⟨g, 0, none⟩) := by simpa using hp
  have hq' : a.tmps[q]?.getD undef = .pointer (some ⟨g2, 0, none⟩) := by simpa using hq
  simp [results, h, hp', hq', asAddr, run_loadVar_row w g t ty cs (0, 0) d hg hu hd (by rw [hi, hs]), run_loadVar_row w g2 t2 ty2 cs2 (0, 0) d2 hg2 hu2 hd2 (by rw [hi2, hs2])]
end Go.Proofs.YtdlmamnnamlleaaDoor
namespace Go.Proofs.YtdlmamnnamlleaaDoor
open Go.ChangeShapes Go.WideShapes Go.ChangeAt Go.RowKit
set_option maxHeartbeats 1000000
set_option maxRecDepth 100000
attribute [local go_sem ↓] load_num store_num execl_num execs_num load_wide store_wide execl_wide execs_wide
attribute [local go_sem] isHead_mk blkOf_mk isAgg_mk cellsV_mk row_drew rowAt_drew row_new_cells row_old rowAt_new rowAt_old setRow_new

/-- What DivMod has ahead of its loop. -/
def dmW (w : World) (a m : Nat) : World :=
  (((((w.alloc (Obj.cells (arrK .u64 8 (wd a)) 154)).alloc (Obj.cells (arrK .u64 4 (wd m)) 41)).alloc (Obj.cells (arrK .u64 8 (wd 0)) 154)).alloc (Obj.cells (arrK .u64 4 (wd 0)) 41)).alloc (Obj.cells (arrK .u64 8 (wd 0)) 154)).alloc (Obj.cells (arrK .u64 4 (wd 0)) 41)
structure DmAt (w : World) (h a m q r : Nat) : Prop where
  A : WideAt w h a
  M : NumAt w (h + 1) m
  Oq : Row w (h + 1 + 1) 8
  Or : Row w (h + 1 + 1 + 1) 4
  Q : WideAt w (h + 1 + 1 + 1 + 1) q
  R : NumAt w (h + 1 + 1 + 1 + 1 + 1) r
theorem DmAt.below {w w' : World} {h a m q r B : Nat} (k : DmAt w h a m q r) (hb : Below B w w') (hB : h + 6 ≤ B) : DmAt w' h a m q r :=
  ⟨k.A.below hb (by omega), k.M.below hb (by omega), row_below k.Oq hb (by omega), row_below k.Or hb (by omega), k.Q.below hb (by omega), k.R.below hb (by omega)⟩
theorem DmAt.drew {w : World} {h a m q r : Nat} (k : DmAt w h a m q r) : DmAt w.drew h a m q r := ⟨k.A.drew, k.M.drew, k.Oq, k.Or, k.Q.drew, k.R.drew⟩
theorem DmAt.setR {w : World} {h a m q r r' : Nat} (k : DmAt w h a m q r) : DmAt (w.setRow (h + 1 + 1 + 1 + 1 + 1) (arrK .u64 4 (wd r'))) h a m q r' :=
  ⟨k.A.far (by omega), k.M.far (by omega), (row_setRow_far (by omega)).2 k.Oq, (row_setRow_far (by omega)).2 k.Or, k.Q.far (by omega), At.put k.R.row⟩
theorem DmAt.bitR {w : World} {h a m q S b : Nat} (k : DmAt w h a m q S) (hb : ∀ p, upd (wd S) 0 (wd S 0 + b) p = wd (S + b) p) :
    DmAt (w.setCell ⟨h + 1 + 1 + 1 + 1 + 1, 0, none⟩ (.int .u64 ((wd S 0 + b : Nat) : Int))) h a m q (S + b) :=
  ⟨k.A.farC (by simp; omega), k.M.farC (by simp <;> omega), row_setCell.2 k.Oq, row_setCell.2 k.Or, k.Q.farC (by simp), (k.R.set 0 _).congr fun p _ => hb p⟩
theorem DmAt.bitQ {w : World} {h a m q r i t u : Nat} (k : DmAt w h a m q r) (hb : ∀ p, upd (wd q) t u p = wd (q ||| 2 ^ i) p) :
    DmAt (w.setCell ⟨h + 1 + 1 + 1 + 1, t, none⟩ (.int .u64 (u : Int))) h a m (q ||| 2 ^ i) r :=
  ⟨k.A.farC (by simp; omega), k.M.farC (by simp <;> omega), row_setCell.2 k.Oq, row_setCell.2 k.Or, (k.Q.set t u).congr fun p _ => hb p, k.R.farC (by simp)⟩
theorem dm_start' (w : World) (a m : Nat) : DmAt (dmW w a m) w.heap.size a m 0 0 ∧ Below w.heap.size w (dmW w a m) ∧ (dmW w a m).heap.size = w.heap.size + 6 := by
  unfold dmW
  refine ⟨⟨?_, ?_, ?_, ?_, ?_, ?_⟩, by go_grown, by simp⟩
  · exact ((((At.new _ rfl).old _).old _).old _).old _ |>.old _
  · exact (((At.new _ (by simp)).old _).old _).old _ |>.old _
  · exact (((At.new (k := .u64) (m := 8) (f := wd 0) _ (by simp)).old _).old _).old _ |>.row
  · exact ((At.new (k := .u64) (m := 4) (f := wd 0) _ (by simp)).old _).old _ |>.row
  · exact (At.new _ (by simp)).old _
  · exact At.new _ (by simp)

theorem top_wd {r : Nat} (hr : r < 2 ^ 256) : wd r 3 / 9223372036854775808 = if 2 ^ 256 ≤ 2 * r then 1 else 0 := by
  have h : wd r 3 = r / 2 ^ (64 * 3) := by unfold wd; exact Nat.mod_eq_of_lt (by rw [Nat.div_lt_iff_lt_mul (Nat.pow_pos (by omega)), ← Nat.pow_add]; exact hr)
  rw [h, show (9223372036854775808 : Nat) = 2 ^ 63 from rfl, Nat.div_div_eq_div_mul, ← Nat.pow_add, show 64 * 3 + 63 = 255 from rfl]
  have e : (2 : Nat) ^ 256 = 2 * 2 ^ 255 := by rw [Nat.mul_comm, ← Nat.pow_succ]
  rw [e] at hr ⊢
  generalize (2 : Nat) ^ 255 = P at *
  have hP : 0 < P := by omega
  split
  · exact Nat.div_eq_of_lt_le (by omega) (by omega)
  · exact Nat.div_eq_of_lt (by omega)
theorem shl_one (r : Nat) : r * 2 ^ 1 % 2 ^ 256 % 2 = 0 := by
  rw [Nat.mod_mod_of_dvd _ (show 2 ∣ 2 ^ 256 from Nat.pow_dvd_pow 2 (show 1 ≤ 256 by omega)), Nat.pow_one, Nat.mul_mod_left]
theorem low_bit {S b : Nat} (hS : S % 2 = 0) (hS2 : S < 2 ^ 256) (hb : b ≤ 1) : wd S 0 ||| b = wd S 0 + b ∧ S + b < 2 ^ 256 ∧ ∀ p, upd (wd S) 0 (wd S 0 + b) p = wd (S + b) p := by
  have e1 : wd S 0 = S % 2 ^ 64 := by unfold wd; simp
  have h2 : wd S 0 % 2 = 0 := by rw [e1, Nat.mod_mod_of_dvd _ (show 2 ∣ 2 ^ 64 from Nat.pow_dvd_pow 2 (show 1 ≤ 64 by omega))]; exact hS
  refine ⟨?_, ?_, fun p => ?_⟩
  · have h := Nat.two_pow_add_eq_or_of_lt (i := 1) (b := b) (by omega) (wd S 0 / 2)
    rw [Nat.pow_one, show 2 * (wd S 0 / 2) = wd S 0 by omega] at h
    exact h.symm
  · have : (2 : Nat) ^ 256 % 2 = 0 := by decide
    omega
  · unfold upd
    split
    · rename_i hp
      subst hp
      unfold wd at e1 ⊢
      simp only [Nat.mul_zero, Nat.pow_zero, Nat.div_one]
      omega
    · rename_i hp
      obtain ⟨t, rfl⟩ : ∃ t, p = t + 1 := ⟨p - 1, by omega⟩
      unfold wd
      have h3 : ∀ x, x / 2 ^ (64 * (t + 1)) = x / 2 / 2 ^ (64 * t + 63) := fun x => by
        rw [Nat.div_div_eq_div_mul, show 2 * 2 ^ (64 * t + 63) = 2 ^ (64 * (t + 1)) by rw [Nat.mul_comm, ← Nat.pow_succ]; rfl]
      rw [h3, h3, show (S + b) / 2 = S / 2 by omega]
/-- What the round's test tells. -/
theorem dm_test {r m b S : Nat} (hm : m < 2 ^ 256) (hr : r < m) (hb : b ≤ 1) (hS : r * 2 ^ 1 % 2 ^ 256 = S) :
    (2 ^ 256 ≤ 2 * r → m ≤ 2 * r + b ∧ subN (S + b) m = 2 * r + b - m) ∧
    (¬ 2 ^ 256 ≤ 2 * r → (¬ 2 * r + b < m → lessN (S + b) m = 0 ∧ m ≤ 2 * r + b ∧ subN (S + b) m = 2 * r + b - m) ∧ (2 * r + b < m → lessN (S + b) m = 1 ∧ ¬ m ≤ 2 * r + b ∧ S + b = 2 * r + b)) := by
  rw [Nat.pow_one] at hS
  unfold subN lessN
  generalize (2 : Nat) ^ 256 = P at *
  refine ⟨fun h => ?_, fun h => ⟨fun h2 => ?_, fun h2 => ?_⟩⟩
  · have e : S = 2 * r - P := by rw [← hS, Nat.mul_comm, Nat.mod_eq_sub_mod h, Nat.mod_eq_of_lt (by omega)]
    refine ⟨by omega, ?_⟩
    rw [show S + b + P - m = 2 * r + b - m by omega, Nat.mod_eq_of_lt (by omega)]
  · have e : S = 2 * r := by rw [← hS, Nat.mul_comm, Nat.mod_eq_of_lt (by omega)]
    rw [e, if_neg h2]
    refine ⟨rfl, by omega, ?_⟩
    rw [show 2 * r + b + P - m = (2 * r + b - m) + P by omega, Nat.add_mod_right, Nat.mod_eq_of_lt (by omega)]
  · have e : S = 2 * r := by rw [← hS, Nat.mul_comm, Nat.mod_eq_of_lt (by omega)]
    rw [e, if_pos h2]
    exact ⟨rfl, by omega, rfl⟩
theorem abit_wd (a i : Nat) : wd a (i / 64) / 2 ^ (i % 64) % 2 = abit a i := by
  unfold wd abit
  have h1 : a / 2 ^ i = a / 2 ^ (64 * (i / 64)) / 2 ^ (i % 64) := by
    rw [Nat.div_div_eq_div_mul, ← Nat.pow_add]; congr 2; omega
  rw [h1]
  generalize a / 2 ^ (64 * (i / 64)) = M
  have h2 : 2 ^ (i % 64) * 2 ∣ 2 ^ 64 := by rw [← Nat.pow_succ]; exact Nat.pow_dvd_pow 2 (by omega)
  rw [← Nat.mod_mul_right_div_self, ← Nat.mod_mul_right_div_self, Nat.mod_mod_of_dvd _ h2]
theorem q_bit (q i p : Nat) : upd (wd q) (i / 64) (wd q (i / 64) ||| 2 ^ (i % 64)) p = wd (q ||| 2 ^ i) p := by
  rw [wd_or, wd_bit]
  unfold upd
  split
  · rename_i h; subst h; rfl
  · simp
theorem u64_and1 (x : Nat) (hx : x < 18446744073709551616) : bits .and .u64 (x : Int) 1 = ((x % 2 : Nat) : Int) := by
  rw [show (1 : Int) = ((1 : Nat) : Int) from rfl, u64_and_nat x 1 hx (by omega), Nat.and_one_is_mod]

theorem quot_DivMod (a m : Nat) (w : World) (ha : a < 2 ^ (64 * 8)) (hm : m < 2 ^ 256) (hm0 : m ≠ 0) :
    Calls Tryd.prog 119 #[wideV a, numV m] w fun e w' => e = .returned (.tuple #[wideV (a / m), numV (a % m), .int .i64 0]) ∧ Below w.heap.size w w' := by
  unfold wideV numV
  obtain ⟨hD, hL, hz⟩ := dm_start' w a m
  have heq := fun W => eqlNum hm (show 0 < 2 ^ 256 by omega) W
  rw [decide_eq_false hm0] at heq
  unfold dmW at hD hL hz
  have hRa := hD.A.row
  have hRm := hD.M.row
  have hrm := hD.M.eq
  have hRr := hD.R.row
  have hrr := hD.R.eq
  rw [← zeroNum, ← zeroWide] at *
  have hHD := Lib.hid hD
  clear hD
  go_enter Tryd.func119, Tryd.ntmps119
  go_wp2
  clear hRa hRm hrm hRr hrr heq
  rw [zeroNum, zeroWide] at *
  have hD := hHD.out
  clear hHD
  generalize (((((w.alloc (Obj.cells (arrK .u64 8 (wd a)) 154)).alloc (Obj.cells (arrK .u64 4 (wd m)) 41)).alloc (Obj.cells (arrK .u64 8 (wd 0)) 154)).alloc (Obj.cells (arrK .u64 4 (wd 0)) 41)).alloc (Obj.cells (arrK .u64 8 (wd 0)) 154)).alloc (Obj.cells (arrK .u64 4 (wd 0)) 41) = W0 at *
  go_loopw [9] (fun i wr => ∃ s : Nat, i = .int .i64 ((s : Int) - 1) ∧ s ≤ 512 ∧ DmAt wr w.heap.size a m (dmQ a m s) (dmR a m s) ∧ Below w.heap.size w wr) (fun i _ => (intOf i + 1).toNat)
  case atStart =>
    have h0 := dm_start (m := m) ha
    exact ⟨64 * 8, rfl, by omega, by rw [h0.1, h0.2]; exact hD, hL⟩
  case round =>
    clear hD hL hz
    obtain ⟨s, rfl, hs, hD, hL⟩ := hrel
    rcases Nat.eq_zero_or_pos s with rfl | hs0
    · rw [(dm_end a m).1, (dm_end a m).2] at hD
      have hRq := hD.Q.row
      have hRr := hD.R.row
      have hrq := hD.Q.eq
      have hrr := hD.R.eq
      have hOq := hD.Oq
      have hOr := hD.Or
      obtain ⟨Q, hQ⟩ : ∃ Q, Q = a / m := ⟨_, rfl⟩
      obtain ⟨R, hR⟩ : ∃ R, R = a % m := ⟨_, rfl⟩
      rw [← hQ] at hrq
      rw [← hR] at hrr
      have hHQ := Lib.hid hQ
      have hHR := Lib.hid hR
      clear hQ hR hD
      have hcq := arrK_cells .u64 8 (wd Q)
      have hcr := arrK_cells .u64 4 (wd R)
      have s1 : ∀ c, Row (wr.drew.setRow (w.heap.size + 1 + 1) c) (w.heap.size + 1 + 1 + 1) 4 := fun c => (row_setRow_far (by omega)).2 (row_drew.2 hOr)
      have s2 : ∀ c, Row (wr.drew.setRow (w.heap.size + 1 + 1) c) (w.heap.size + 1 + 1 + 1 + 1 + 1) 4 := fun c => (row_setRow_far (by omega)).2 (row_drew.2 hRr)
      have s3 : ∀ c, rowAt (wr.drew.setRow (w.heap.size + 1 + 1) c) (w.heap.size + 1 + 1 + 1 + 1 + 1) = arrK .u64 4 (wd R) := fun c => (rowAt_setRow_far (by omega)).trans hrr
      have s4 : ∀ c, Row (wr.drew.setRow (w.heap.size + 1 + 1 + 1) c) (w.heap.size + 1 + 1) 8 := fun c => (row_setRow_far (by omega)).2 (row_drew.2 hOq)
      have s5 : ∀ c, Row (wr.drew.setRow (w.heap.size + 1 + 1 + 1) c) (w.heap.size + 1 + 1 + 1 + 1) 8 := fun c => (row_setRow_far (by omega)).2 (row_drew.2 hRq)
      have s6 : ∀ c, rowAt (wr.drew.setRow (w.heap.size + 1 + 1 + 1) c) (w.heap.size + 1 + 1 + 1 + 1) = arrK .u64 8 (wd Q) := fun c => (rowAt_setRow_far (by omega)).trans hrq
      go_wp2
      go_region
      go_wp2
      refine ret_cct (p := 4) (q := 5) (s := 6) (ty := 154) (ty2 := 41) (g := w.heap.size + 1 + 1) (g2 := w.heap.size + 1 + 1 + 1) (n := 8) (n2 := 4) rfl Tryd.underlying154 rfl (by kernel_rfl) Tryd.underlying41 rfl (by kernel_rfl) rfl rfl
        ((row_setRow_far (by omega)).2 ((row_setRow_same rfl (row_drew.2 hOq)).2 hcq.1)) ((row_setRow_same rfl (s1 _)).2 hcr.1) rfl ?_
      rw [rowAt_setRow_far (by omega), rowAt_setRow_same (row_drew.2 hOq), rowAt_setRow_same (s1 _), hHQ.out, hHR.out]
      exact ⟨rfl, below_setRow (below_setRow hL.drew (by omega)) (by omega)⟩
    · obtain ⟨i, rfl⟩ : ∃ i, s = i + 1 := ⟨s - 1, by omega⟩
      rw [show (((i + 1 : Nat) : Int) - 1) = (i : Int) by omega]
      have hrm : dmR a m (i + 1) < m := Nat.mod_lt _ (by omega)
      have hdr := Lib.hid (dm_round (a := a) (m := m) (i := i) (by omega))
      obtain ⟨S, hS⟩ : ∃ S, dmR a m (i + 1) * 2 ^ 1 % 2 ^ 256 = S := ⟨_, rfl⟩
      have hS2 := shl_one (dmR a m (i + 1))
      have hbl : abit a i ≤ 1 := by unfold abit; omega
      have hdt := Lib.hid (dm_test hm hrm hbl hS)
      rw [hS] at hS2
      have hS3 : S < 2 ^ 256 := by rw [← hS]; exact Nat.mod_lt _ (Nat.pow_pos (by omega))
      have htop := top_wd (Nat.lt_trans hrm hm)
      have hab := abit_wd a i
      generalize hr : dmR a m (i + 1) = r at *
      generalize hq : dmQ a m (i + 1) = q at *
      have hcr := hD.R.cell (i := 3) (by omega)
      have hR := hD.R.row
      have hRe := hD.R.eq
      have hlt3 := wd_lt r 3
      have hHr := Lib.hid hr
      have hHq := Lib.hid hq
      have hHS := Lib.hid hS
      have hHt := Lib.hid htop
      have hHa := Lib.hid hab
      have hHS2 := Lib.hid hS2
      clear hr hq hS htop hab hS2
      go_wp2_with fail
      refine (limb_Shl r 1 S _ (by omega) hHS.out).mono ?_
      rintro e W1 ⟨rfl, hb1⟩
      unfold numV
      have hR1 := row_below hR hb1 hR.lt
      have hcs := arrK_cells .u64 4 (wd S)
      have hD1 := Lib.hid ((hD.below hb1 (by have := hR.lt; omega)).setR (r' := S))
      have hL1 := Lib.hid (below_setRow (c := arrK .u64 4 (wd S)) (below_step hb1 hL (Nat.le_refl _)) (show w.heap.size ≤ w.heap.size + 1 + 1 + 1 + 1 + 1 by omega))
      clear hb1 hR hRe hD hL hcr hHS
      go_wp2
      have hD := hD1.out
      have hL := hL1.out
      clear hD1 hL1 hR1 hcs
      generalize W1.setRow (w.heap.size + 1 + 1 + 1 + 1 + 1) (arrK .u64 4 (wd S)) = W2 at *
      obtain ⟨t, ht⟩ : ∃ t, t = i / 64 := ⟨_, rfl⟩
      obtain ⟨k, hk⟩ : ∃ k, k = i % 64 := ⟨_, rfl⟩
      have ht8 : t < 8 := by omega
      have hk64 : k < 64 := by omega
      have hqt : Int.tdiv (i : Int) 64 = t := by rw [Int.tdiv_eq_ediv_of_nonneg (by omega)]; omega
      have hkt : Int.tmod (i : Int) 64 = k := by rw [Int.tmod_eq_emod_of_nonneg (by omega)]; omega
      have hqi : (i : Int) / 64 = t := by omega
      have hki : (i : Int) % 64 = k := by omega
      have ht0 : (0 : Int) ≤ t := by omega
      have ht1 : (t : Int) < 8 := by omega
      have hk0 : (0 : Int) ≤ k := by omega
      have hk1 : (k : Int).toNat = k := by omega
      have c0 := hD.R.cell (i := 0) (by omega)
      have f0 := hD.R.row.frozen 0
      have ca := hD.A.cell ht8
      have hla := wd_lt a t
      have hl0 := wd_lt S 0
      rw [← ht, ← hk] at hHa
      have hlow := Lib.hid (low_bit hHS2.out hS3 hbl)
      have hand : bits .and .u64 (((wd a t : Nat) : Int) / 2 ^ k) 1 = ((abit a i : Nat) : Int) := by
        rw [show ((wd a t : Nat) : Int) / 2 ^ k = ((wd a t / 2 ^ k : Nat) : Int) by simp, u64_and1 _ (Nat.lt_of_le_of_lt (Nat.div_le_self _ _) hla), hHa.out]
      have hor : bits .or .u64 (wd S 0 : Nat) ((abit a i : Nat) : Int) = ((wd S 0 + abit a i : Nat) : Int) := by
        rw [u64_or_nat _ _ hl0 (by omega), hlow.out.1]
      have hHand := Lib.hid hand
      have hHor := Lib.hid hor
      have hHtk := Lib.hid (And.intro ht hk)
      clear ht hk hand hor
      go_region
      rw [hHand.out, hHor.out]
      have hD1 := (hD.bitR hlow.out.2.2).drew
      have hL1 := (hL.setCell (p := ⟨w.heap.size + 1 + 1 + 1 + 1 + 1, 0, none⟩) (show w.heap.size ≤ w.heap.size + 1 + 1 + 1 + 1 + 1 by omega) (.int .u64 ((wd S 0 + abit a i : Nat) : Int))).drew
      have hc2 := hlow.out.2.1
      clear hD hL c0 f0 ca hla hl0 hlow hHand hHor hHa hHS2
      generalize (W2.setCell ⟨w.heap.size + 1 + 1 + 1 + 1 + 1, 0, none⟩ (.int .u64 ((wd S 0 + abit a i : Nat) : Int))).drew = W3 at *
      obtain ⟨c, hc⟩ : ∃ c, c = S + abit a i := ⟨_, rfl⟩
      rw [← hc] at hdt hD1 hc2
      have hRr := hD1.R.row
      have hre := hD1.R.eq
      have hRm := hD1.M.row
      have hme := hD1.M.eq
      have hlc : lessN c m ≤ 1 := by unfold lessN; split <;> omega
      have hHc := Lib.hid hc
      clear hc hS3
      go_wp2_with fail
      refine (limb_Sub c m _ hc2 hm).mono ?_
      rintro e W4 ⟨rfl, hb4⟩
      unfold numV
      have hD4 := hD1.below hb4 (by have := hRr.lt; omega)
      have hL4 := below_step hb4 hL1 (Nat.le_refl _)
      have hcl := arrK_cells .u64 4 (wd (subN c m))
      have hRl : Row (W4.alloc (Obj.cells (arrK .u64 4 (wd 0)) 41)) W4.heap.size 4 := (row_new rfl).2 (arrK_size _ _ _)
      have hba := (Below.refl W4.heap.size W4).alloc (Nat.le_refl _) (Obj.cells (arrK .u64 4 (wd (subN c m))) 41)
      have hD5 := hD4.below hba (by have := hD4.R.lt; omega)
      have hL5 := below_step hba hL4 (Nat.le_refl _)
      have hRl5 : Row (W4.alloc (Obj.cells (arrK .u64 4 (wd (subN c m))) 41)) W4.heap.size 4 := (row_new rfl).2 (arrK_size _ _ _)
      have hRr5 := hD5.R.row
      have hD6 := hD5.setR (r' := subN c m)
      have hL6 := below_setRow (c := arrK .u64 4 (wd (subN c m))) hL5 (show w.heap.size ≤ w.heap.size + 1 + 1 + 1 + 1 + 1 by omega)
      have cq := hD6.Q.cell ht8
      have fq := hD6.Q.row.frozen t
      have hlq := wd_lt q t
      have h2k : 2 ^ k < 18446744073709551616 := Nat.lt_of_lt_of_le (Nat.pow_lt_pow_right (by omega) hk64) (by decide)
      rw [← zeroNum] at hRl
      clear hRr hre hRm hme hb4 hD1 hL1 hD4 hL4 hba
      have hw1 : IntKind.u64.wrap ((2 : Int) ^ k) = ((2 ^ k : Nat) : Int) := by
        rw [show (2 : Int) ^ k = ((2 ^ k : Nat) : Int) by simp]
        generalize 2 ^ k = e at h2k ⊢
        rw [IntKind.wrap_u64]; omega
      have hqb := fun p => q_bit q i p
      rw [← hHtk.out.1, ← hHtk.out.2] at hqb
      have hor : bits .or .u64 (wd q t : Nat) ((2 : Int) ^ k) = ((wd q t ||| 2 ^ k : Nat) : Int) := by
        rw [show (2 : Int) ^ k = ((2 ^ k : Nat) : Int) by simp, u64_or_nat _ _ hlq h2k]
      have hHor := Lib.hid hor
      have hD7 := Lib.hid (hD6.bitQ hqb)
      have hL7 := Lib.hid (hL6.setCell (p := ⟨w.heap.size + 1 + 1 + 1 + 1, t, none⟩) (show w.heap.size ≤ w.heap.size + 1 + 1 + 1 + 1 by omega) (.int .u64 ((wd q t ||| 2 ^ k : Nat) : Int)))
      have hHD6 := Lib.hid hD6
      have hHD5 := Lib.hid hD5
      clear hor hqb hD6 hD5 hHtk
      have hT := hHt.out
      clear hHt
      by_cases h256 : 2 ^ 256 ≤ 2 * r
      · rw [if_pos h256] at hT
        have hT' : ((wd r 3 : Nat) : Int) / 9223372036854775808 = 1 := by omega
        have hge := hdt.out.1 h256
        rw [← hge.2] at hdr
        have hHres := Lib.hid (hdr.out.1 hge.1)
        clear hT h256 hge hdr hdt
        go_wp2
        go_round
        case rel => exact ⟨i, rfl, by omega, by rw [hHor.out, hHres.out.1, hHres.out.2]; exact hD7.out, by rw [hHor.out]; exact hL7.out⟩
        case measure => simp [intOf]
      · rw [if_neg h256] at hT
        have hT' : ((wd r 3 : Nat) : Int) / 9223372036854775808 = 0 := by omega
        have hdt2 := hdt.out.2 h256
        clear hdt hT h256
        by_cases hlt : 2 * r + abit a i < m
        · have hx := hdt2.2 hlt
          have hHres := Lib.hid (hdr.out.2 hx.2.1)
          have hrc : c = 2 * r + abit a i := hx.2.2
          rw [← hrc] at hHres
          rw [hx.1]
          clear hdt2 hdr hlt hrc hx
          go_wp2
          go_round
          case rel => exact ⟨i, rfl, by omega, by rw [hHres.out.1, hHres.out.2]; exact hHD5.out, hL5⟩
          case measure => simp [intOf]
        · have hge := hdt2.1 hlt
          rw [← hge.2.2] at hdr
          have hHres := Lib.hid (hdr.out.1 hge.2.1)
          rw [hge.1]
          clear hdt2 hdr hlt hge
          go_wp2
          go_round
          case rel => exact ⟨i, rfl, by omega, by rw [hHor.out, hHres.out.1, hHres.out.2]; exact hD7.out, by rw [hHor.out]; exact hL7.out⟩
          case measure => simp [intOf]
theorem quot_DivMod0 (a : Nat) (w : World) :
    Calls Tryd.prog 119 #[wideV a, numV 0] w fun e w' => e = .returned (.tuple #[wideV 0, numV 0, .int .i64 1]) ∧ Below w.heap.size w w' := by
  unfold wideV numV
  obtain ⟨hD, hL, hz⟩ := dm_start' w a 0
  have heq := fun W => eqlNum (show 0 < 2 ^ 256 by omega) (show 0 < 2 ^ 256 by omega) W
  rw [decide_eq_true rfl] at heq
  unfold dmW at hD hL hz
  have hRa := hD.A.row
  have hRm := hD.M.row
  have hrm := hD.M.eq
  have hRr := hD.R.row
  have hrr := hD.R.eq
  have hRq := hD.Q.row
  have hrq := hD.Q.eq
  have hOq := hD.Oq
  have hOr := hD.Or
  have hcq := arrK_cells .u64 8 (wd 0)
  have hcr := arrK_cells .u64 4 (wd 0)
  have hHD := Lib.hid hD
  clear hD
  rw [← zeroNum, ← zeroWide] at *
  go_enter Tryd.func119, Tryd.ntmps119
  go_wp2
  rw [zeroNum, zeroWide] at *
  generalize (((((w.alloc (Obj.cells (arrK .u64 8 (wd a)) 154)).alloc (Obj.cells (arrK .u64 4 (wd 0)) 41)).alloc (Obj.cells (arrK .u64 8 (wd 0)) 154)).alloc (Obj.cells (arrK .u64 4 (wd 0)) 41)).alloc (Obj.cells (arrK .u64 8 (wd 0)) 154)).alloc (Obj.cells (arrK .u64 4 (wd 0)) 41) = wr at *
  have s1 : ∀ c, Row (wr.drew.setRow (w.heap.size + 1 + 1) c) (w.heap.size + 1 + 1 + 1) 4 := fun c => (row_setRow_far (by omega)).2 (row_drew.2 hOr)
  have s2 : ∀ c, Row (wr.drew.setRow (w.heap.size + 1 + 1) c) (w.heap.size + 1 + 1 + 1 + 1 + 1) 4 := fun c => (row_setRow_far (by omega)).2 (row_drew.2 hRr)
  have s3 : ∀ c, rowAt (wr.drew.setRow (w.heap.size + 1 + 1) c) (w.heap.size + 1 + 1 + 1 + 1 + 1) = arrK .u64 4 (wd 0) := fun c => (rowAt_setRow_far (by omega)).trans hrr
  have s4 : ∀ c, Row (wr.drew.setRow (w.heap.size + 1 + 1 + 1) c) (w.heap.size + 1 + 1) 8 := fun c => (row_setRow_far (by omega)).2 (row_drew.2 hOq)
  have s5 : ∀ c, Row (wr.drew.setRow (w.heap.size + 1 + 1 + 1) c) (w.heap.size + 1 + 1 + 1 + 1) 8 := fun c => (row_setRow_far (by omega)).2 (row_drew.2 hRq)
  have s6 : ∀ c, rowAt (wr.drew.setRow (w.heap.size + 1 + 1 + 1) c) (w.heap.size + 1 + 1 + 1 + 1) = arrK .u64 8 (wd 0) := fun c => (rowAt_setRow_far (by omega)).trans hrq
  go_region
  go_wp2
  refine ret_cct (p := 4) (q := 5) (s := 6) (ty := 154) (ty2 := 41) (g := w.heap.size + 1 + 1) (g2 := w.heap.size + 1 + 1 + 1) (n := 8) (n2 := 4) rfl Tryd.underlying154 rfl (by kernel_rfl) Tryd.underlying41 rfl (by kernel_rfl) rfl rfl
    ((row_setRow_far (by omega)).2 ((row_setRow_same rfl (row_drew.2 hOq)).2 hcq.1)) ((row_setRow_same rfl (s1 _)).2 hcr.1) rfl ?_
  rw [rowAt_setRow_far (by omega), rowAt_setRow_same (row_drew.2 hOq), rowAt_setRow_same (s1 _)]
  exact ⟨by rw [← zeroNum, ← zeroWide]; rfl, below_setRow (below_setRow hL.drew (by omega)) (by omega)⟩
theorem quot_ModAux (a m Q R c : Nat) (w : World) (hc : ∀ W, Calls Tryd.prog 119 #[wideV a, numV m] W fun e w' => e = .returned (.tuple #[wideV Q, numV R, .int .i64 c]) ∧ Below W.heap.size W w') :
    Calls Tryd.prog 110 #[wideV a, numV m] w fun e w' => e = .returned (.tuple #[numV R, .int .i64 c]) ∧ Below w.heap.size w w' := by
  have hHc := Lib.hid hc
  clear hc
  unfold wideV numV at *
  have hL : Below w.heap.size w (((w.alloc (Obj.cells (arrK .u64 8 (wd a)) 154)).alloc (Obj.cells (arrK .u64 4 (wd m)) 41)).alloc (Obj.cells (arrK .u64 4 (wd 0)) 41)) := by go_grown
  have hRa : Row (((w.alloc (Obj.cells (arrK .u64 8 (wd a)) 154)).alloc (Obj.cells (arrK .u64 4 (wd m)) 41)).alloc (Obj.cells (arrK .u64 4 (wd 0)) 41)) w.heap.size 8 := (row_old (by simp <;> omega)).2 ((row_old (by simp)).2 ((row_new rfl).2 (arrK_size _ _ _)))
  have hra : rowAt (((w.alloc (Obj.cells (arrK .u64 8 (wd a)) 154)).alloc (Obj.cells (arrK .u64 4 (wd m)) 41)).alloc (Obj.cells (arrK .u64 4 (wd 0)) 41)) w.heap.size = arrK .u64 8 (wd a) := (rowAt_old (by simp <;> omega)).trans ((rowAt_old (by simp)).trans (rowAt_new rfl))
  have hRm : Row (((w.alloc (Obj.cells (arrK .u64 8 (wd a)) 154)).alloc (Obj.cells (arrK .u64 4 (wd m)) 41)).alloc (Obj.cells (arrK .u64 4 (wd 0)) 41)) (w.heap.size + 1) 4 := (row_old (by simp)).2 ((row_new (by simp)).2 (arrK_size _ _ _))
  have hrm : rowAt (((w.alloc (Obj.cells (arrK .u64 8 (wd a)) 154)).alloc (Obj.cells (arrK .u64 4 (wd m)) 41)).alloc (Obj.cells (arrK .u64 4 (wd 0)) 41)) (w.heap.size + 1) = arrK .u64 4 (wd m) := (rowAt_old (by simp)).trans (rowAt_new (by simp))
  have hRo : Row (((w.alloc (Obj.cells (arrK .u64 8 (wd a)) 154)).alloc (Obj.cells (arrK .u64 4 (wd m)) 41)).alloc (Obj.cells (arrK .u64 4 (wd 0)) 41)) (w.heap.size + 1 + 1) 4 := (row_new (by simp)).2 (arrK_size _ _ _)
  rw [← zeroNum] at *
  go_enter Tryd.func110, Tryd.ntmps110
  go_wp2_with fail
  rw [zeroNum] at *
  generalize (((w.alloc (Obj.cells (arrK .u64 8 (wd a)) 154)).alloc (Obj.cells (arrK .u64 4 (wd m)) 41)).alloc (Obj.cells (arrK .u64 4 (wd 0)) 41)) = W0 at *
  refine (hHc.out _).mono ?_
  rintro e W1 ⟨rfl, hb1⟩
  have hR1 := row_below hRo hb1 hRo.lt
  have hL1 := below_step hb1 hL (Nat.le_refl _)
  have hlt := hR1.lt
  have hcq := arrK_cells .u64 8 (wd Q)
  have hcr := arrK_cells .u64 4 (wd R)
  have hX1 : Row ((W1.alloc (Obj.cells (arrK .u64 8 (wd 0)) 154)).alloc (Obj.cells (arrK .u64 4 (wd 0)) 41)) W1.heap.size 8 := (row_old (by simp)).2 ((row_new rfl).2 (arrK_size _ _ _))
  have hX2 : Row ((W1.alloc (Obj.cells (arrK .u64 8 (wd 0)) 154)).alloc (Obj.cells (arrK .u64 4 (wd 0)) 41)) (W1.heap.size + 1) 4 := (row_new (by simp)).2 (arrK_size _ _ _)
  have hX3 : Row ((W1.alloc (Obj.cells (arrK .u64 8 (wd 0)) 154)).alloc (Obj.cells (arrK .u64 4 (wd 0)) 41)) (w.heap.size + 1 + 1) 4 := (row_old (by simp; omega)).2 ((row_old hlt).2 hR1)
  have hL2 := (hL1.alloc (by omega) (Obj.cells (arrK .u64 8 (wd 0)) 154)).alloc (by simp; omega) (Obj.cells (arrK .u64 4 (wd 0)) 41)
  rw [← zeroNum, ← zeroWide] at *
  have hY2 := (row_setRow_far (c' := arrK .u64 8 (wd Q)) (show W1.heap.size + 1 ≠ W1.heap.size by omega)).2 hX2
  have hY3 := (row_setRow_far (c' := arrK .u64 8 (wd Q)) (show w.heap.size + 1 + 1 ≠ W1.heap.size by omega)).2 hX3
  have hZ2 := (row_setRow_same (c' := arrK .u64 4 (wd R)) rfl hY2).2 hcr.1
  have hz2 := rowAt_setRow_same (c := arrK .u64 4 (wd R)) hY2
  have hZ3 := (row_setRow_far (c' := arrK .u64 4 (wd R)) (show w.heap.size + 1 + 1 ≠ W1.heap.size + 1 by omega)).2 hY3
  have hL3 := Lib.hid (below_setRow (c := arrK .u64 4 (wd R)) (below_setRow (c := arrK .u64 8 (wd Q)) hL2 (show w.heap.size ≤ W1.heap.size by omega)) (show w.heap.size ≤ W1.heap.size + 1 by omega))
  clear hRa hra hRm hrm hRo hb1 hL hHc hL1 hL2 hX2 hX3
  go_wp2
  exact ret_stored2 (p := 4) (q := 5) (ty := 41) (g := w.heap.size + 1 + 1) (n := 4) (c := arrK .u64 4 (wd R)) rfl Tryd.underlying41 rfl (by kernel_rfl) rfl hZ3 hcr.1 rfl ⟨rfl, below_setRow hL3.out (by omega)⟩
theorem quot_Mod (a m : Nat) (w : World) (ha : a < 2 ^ (64 * 8)) (hm : m < 2 ^ 256) (hm0 : m ≠ 0) :
    Calls Tryd.prog 110 #[wideV a, numV m] w fun e w' => e = .returned (.tuple #[numV (a % m), .int .i64 0]) ∧ Below w.heap.size w w' :=
  quot_ModAux a m (a / m) (a % m) 0 w fun W => quot_DivMod a m W ha hm hm0
theorem quot_Mod0 (a : Nat) (w : World) :
    Calls Tryd.prog 110 #[wideV a, numV 0] w fun e w' => e = .returned (.tuple #[numV 0, .int .i64 1]) ∧ Below w.heap.size w w' :=
  quot_ModAux a 0 0 0 1 w fun W => quot_DivMod0 a W

end Go.Proofs.YtdlmamnnamlleaaDoor
namespace Go.Proofs.YtdlmamnnamlleaaDoor
open Go.ChangeShapes Go.WideShapes Go.ChangeAt Go.RowKit
set_option maxHeartbeats 1000000
set_option maxRecDepth 100000
attribute [local go_sem ↓] load_num store_num execl_num execs_num load_wide store_wide execl_wide execs_wide
attribute [local go_sem] isHead_mk blkOf_mk isAgg_mk cellsV_mk row_drew rowAt_drew row_new_cells row_old rowAt_new rowAt_old

theorem ret_u64 {a b : Int} (h : a = b) : Ending.returned (.int .u64 a) = .returned (.int .u64 b) := by rw [h]
theorem len8_nat {b : Nat} (h : b < 256) : Lib.len8 (b : Int) = (Lib.bitLen b : Nat) ∧ Lib.bitLen b ≤ 8 := by
  have e := Lib.len8_of (b : Int) (by omega) (by omega)
  have l := Lib.bitLen_le8' (b : Int) (by omega) (by omega)
  simp only [Int.toNat_natCast] at e l
  exact ⟨e, l⟩
theorem bits_Len64 (x : Nat) (w : World) (hx : x < 18446744073709551616) :
    Calls Tryd.prog 64 #[.int .u64 x] w fun e w' => e = .returned (.int .i64 (Lib.bitLen x : Nat)) ∧ w = w' := by
  by_cases hx32 : 4294967296 ≤ x
  · have ex32 := Lib.bitLen_shift32 x hx32 (by omega)
    obtain ⟨xa, hxa⟩ : ∃ xa, xa = x / 4294967296 := ⟨_, rfl⟩
    have ixa : (x : Int) / 4294967296 = xa := by omega
    rw [← hxa] at ex32
    have jx32 : (4294967296 : Int) ≤ x := by omega
    by_cases hxa16 : 65536 ≤ xa
    · have exa16 := Lib.bitLen_shift16 xa hxa16 (by omega)
      obtain ⟨xaa, hxaa⟩ : ∃ xaa, xaa = xa / 65536 := ⟨_, rfl⟩
      have ixaa : (xa : Int) / 65536 = xaa := by omega
      rw [← hxaa] at exa16
      have jxa16 : (65536 : Int) ≤ xa := by omega
      by_cases hxaa8 : 256 ≤ xaa
      · have exaa8 := Lib.bitLen_shift8 xaa hxaa8 (by omega)
        obtain ⟨xaaa, hxaaa⟩ : ∃ xaaa, xaaa = xaa / 256 := ⟨_, rfl⟩
        have ixaaa : (xaa : Int) / 256 = xaaa := by omega
        rw [← hxaaa] at exaa8
        have jxaa8 : (256 : Int) ≤ xaa := by omega
        obtain ⟨he, hl⟩ := len8_nat (b := xaaa) (by omega)
        have hfin := Lib.hid (show Lib.bitLen x = 56 + Lib.bitLen xaaa by omega)
        have hv0 : (0 : Int) ≤ xaaa := by omega
        have hv1 : (xaaa : Int) ≤ 255 := by omega
        generalize Lib.bitLen xaaa = r at *
        clear hxa ex32 hxaa exa16 hxaaa exaa8
        go_enter Tryd.func64, Tryd.ntmps64
        go_wp2
        go_ret
        exact ⟨ret_int (by have := hfin.out; omega), rfl⟩
      · have jxaa8 : ¬ (256 : Int) ≤ xaa := by omega
        obtain ⟨he, hl⟩ := len8_nat (b := xaa) (by omega)
        have hfin := Lib.hid (show Lib.bitLen x = 48 + Lib.bitLen xaa by omega)
        have hv0 : (0 : Int) ≤ xaa := by omega
        have hv1 : (xaa : Int) ≤ 255 := by omega
        generalize Lib.bitLen xaa = r at *
        clear hxa ex32 hxaa exa16
        go_enter Tryd.func64, Tryd.ntmps64
        go_wp2
        go_ret
        exact ⟨ret_int (by have := hfin.out; omega), rfl⟩
    · have jxa16 : ¬ (65536 : Int) ≤ xa := by omega
      by_cases hxa8 : 256 ≤ xa
      · have exa8 := Lib.bitLen_shift8 xa hxa8 (by omega)
        obtain ⟨xaa, hxaa⟩ : ∃ xaa, xaa = xa / 256 := ⟨_, rfl⟩
        have ixaa : (xa : Int) / 256 = xaa := by omega
        rw [← hxaa] at exa8
        have jxa8 : (256 : Int) ≤ xa := by omega
        obtain ⟨he, hl⟩ := len8_nat (b := xaa) (by omega)
        have hfin := Lib.hid (show Lib.bitLen x = 40 + Lib.bitLen xaa by omega)
        have hv0 : (0 : Int) ≤ xaa := by omega
        have hv1 : (xaa : Int) ≤ 255 := by omega
        generalize Lib.bitLen xaa = r at *
        clear hxa ex32 hxaa exa8
        go_enter Tryd.func64, Tryd.ntmps64
        go_wp2
        go_ret
        exact ⟨ret_int (by have := hfin.out; omega), rfl⟩
      · have jxa8 : ¬ (256 : Int) ≤ xa := by omega
        obtain ⟨he, hl⟩ := len8_nat (b := xa) (by omega)
        have hfin := Lib.hid (show Lib.bitLen x = 32 + Lib.bitLen xa by omega)
        have hv0 : (0 : Int) ≤ xa := by omega
        have hv1 : (xa : Int) ≤ 255 := by omega
        generalize Lib.bitLen xa = r at *
        clear hxa ex32
        go_enter Tryd.func64, Tryd.ntmps64
        go_wp2
        go_ret
        exact ⟨ret_int (by have := hfin.out; omega), rfl⟩
  · have jx32 : ¬ (4294967296 : Int) ≤ x := by omega
    by_cases hx16 : 65536 ≤ x
    · have ex16 := Lib.bitLen_shift16 x hx16 (by omega)
      obtain ⟨xa, hxa⟩ : ∃ xa, xa = x / 65536 := ⟨_, rfl⟩
      have ixa : (x : Int) / 65536 = xa := by omega
      rw [← hxa] at ex16
      have jx16 : (65536 : Int) ≤ x := by omega
      by_cases hxa8 : 256 ≤ xa
      · have exa8 := Lib.bitLen_shift8 xa hxa8 (by omega)
        obtain ⟨xaa, hxaa⟩ : ∃ xaa, xaa = xa / 256 := ⟨_, rfl⟩
        have ixaa : (xa : Int) / 256 = xaa := by omega
        rw [← hxaa] at exa8
        have jxa8 : (256 : Int) ≤ xa := by omega
        obtain ⟨he, hl⟩ := len8_nat (b := xaa) (by omega)
        have hfin := Lib.hid (show Lib.bitLen x = 24 + Lib.bitLen xaa by omega)
        have hv0 : (0 : Int) ≤ xaa := by omega
        have hv1 : (xaa : Int) ≤ 255 := by omega
        generalize Lib.bitLen xaa = r at *
        clear hxa ex16 hxaa exa8
        go_enter Tryd.func64, Tryd.ntmps64
        go_wp2
        go_ret
        exact ⟨ret_int (by have := hfin.out; omega), rfl⟩
      · have jxa8 : ¬ (256 : Int) ≤ xa := by omega
        obtain ⟨he, hl⟩ := len8_nat (b := xa) (by omega)
        have hfin := Lib.hid (show Lib.bitLen x = 16 + Lib.bitLen xa by omega)
        have hv0 : (0 : Int) ≤ xa := by omega
        have hv1 : (xa : Int) ≤ 255 := by omega
        generalize Lib.bitLen xa = r at *
        clear hxa ex16
        go_enter Tryd.func64, Tryd.ntmps64
        go_wp2
        go_ret
        exact ⟨ret_int (by have := hfin.out; omega), rfl⟩
    · have jx16 : ¬ (65536 : Int) ≤ x := by omega
      by_cases hx8 : 256 ≤ x
      · have ex8 := Lib.bitLen_shift8 x hx8 (by omega)
        obtain ⟨xa, hxa⟩ : ∃ xa, xa = x / 256 := ⟨_, rfl⟩
        have ixa : (x : Int) / 256 = xa := by omega
        rw [← hxa] at ex8
        have jx8 : (256 : Int) ≤ x := by omega
        obtain ⟨he, hl⟩ := len8_nat (b := xa) (by omega)
        have hfin := Lib.hid (show Lib.bitLen x = 8 + Lib.bitLen xa by omega)
        have hv0 : (0 : Int) ≤ xa := by omega
        have hv1 : (xa : Int) ≤ 255 := by omega
        generalize Lib.bitLen xa = r at *
        clear hxa ex8
        go_enter Tryd.func64, Tryd.ntmps64
        go_wp2
        go_ret
        exact ⟨ret_int (by have := hfin.out; omega), rfl⟩
      · have jx8 : ¬ (256 : Int) ≤ x := by omega
        obtain ⟨he, hl⟩ := len8_nat (b := x) (by omega)
        have hfin := Lib.hid (show Lib.bitLen x = 0 + Lib.bitLen x by omega)
        have hv0 : (0 : Int) ≤ x := by omega
        have hv1 : (x : Int) ≤ 255 := by omega
        generalize Lib.bitLen x = r at *
        skip
        go_enter Tryd.func64, Tryd.ntmps64
        go_wp2
        go_ret
        exact ⟨ret_int (by have := hfin.out; omega), rfl⟩

/-- n bits are needed. -/
def IsLen (a n : Nat) : Prop := a < 2 ^ n ∧ (n = 0 ∨ 2 ^ (n - 1) ≤ a)
theorem IsLen.only {a m n : Nat} (h : IsLen a m) (k : IsLen a n) : m = n := by
  have key : ∀ {m n}, IsLen a m → IsLen a n → m ≤ n := by
    intro m n h k
    rcases Nat.lt_or_ge n m with hlt | hge
    · exfalso
      rcases h.2 with h0 | h1
      · omega
      · have := k.1
        have h2 : 2 ^ n ≤ 2 ^ (m - 1) := Nat.pow_le_pow_right (by omega) (by omega)
        omega
    · exact hge
  exact Nat.le_antisymm (key h k) (key k h)
theorem bitLen_is : ∀ (f x : Nat), x < 2 ^ f → IsLen x (Lib.bitLenAux f x)
  | 0, x, h => by
    have : x = 0 := by simpa using h
    subst this
    exact ⟨by simp [Lib.bitLenAux], .inl rfl⟩
  | f + 1, x, h => by
    unfold Lib.bitLenAux
    by_cases e : x = 0
    · rw [if_pos e, e]; exact ⟨by simp, .inl rfl⟩
    · rw [if_neg e]
      have ih := bitLen_is f (x / 2) (by rw [Nat.pow_succ] at h; omega)
      generalize Lib.bitLenAux f (x / 2) = r at ih
      refine ⟨?_, .inr ?_⟩
      · have := ih.1; rw [Nat.add_comm, Nat.pow_succ]; omega
      · rw [show 1 + r - 1 = r by omega]
        rcases ih.2 with h0 | h1
        · subst h0; simp; omega
        · rcases Nat.eq_zero_or_pos r with h0 | h0
          · subst h0; simp; omega
          · have e2 : 2 ^ r = 2 ^ (r - 1) * 2 := by rw [← Nat.pow_succ]; congr 1; omega
            omega
theorem len_words {a i r : Nat} (h : a / 2 ^ (64 * (i + 1)) = 0) (hr : IsLen (wd a i) r) (h0 : wd a i ≠ 0) : IsLen a (64 * i + r) := by
  have e : wd a i = a / 2 ^ (64 * i) := by
    unfold wd
    apply Nat.mod_eq_of_lt
    have h1 : a / 2 ^ (64 * i) / 2 ^ 64 = 0 := by rw [Nat.div_div_eq_div_mul, ← Nat.pow_add]; exact h
    have := Nat.div_add_mod (a / 2 ^ (64 * i)) (2 ^ 64)
    rw [h1] at this
    have h2 : a / 2 ^ (64 * i) % 2 ^ 64 < 2 ^ 64 := Nat.mod_lt _ (by omega)
    omega
  rw [e] at hr h0
  have hr0 : r ≠ 0 := fun hz => by have := hr.1; rw [hz, Nat.pow_zero] at this; omega
  refine ⟨?_, .inr ?_⟩
  · have := hr.1
    rw [Nat.div_lt_iff_lt_mul (Nat.pow_pos (by omega))] at this
    rw [Nat.pow_add, Nat.mul_comm]; exact this
  · rcases hr.2 with h2 | h2
    · omega
    · rw [show 64 * i + r - 1 = 64 * i + (r - 1) by omega, Nat.pow_add]
      exact Nat.le_trans (Nat.mul_le_mul_left _ h2) (by rw [Nat.mul_comm]; exact Nat.div_mul_le_self _ _)
def RetLen (a : Nat) (w : World) (e : Ending) (w' : World) : Prop := ∃ n, e = .returned (.int .i64 (n : Nat)) ∧ IsLen a n ∧ Below w.heap.size w w'

theorem limb_Len (a : Nat) (w : World) (ha : a < 2 ^ 256) : Calls Tryd.prog 34 #[numV a] w (RetLen a w) := by
  unfold numV
  have hL := below_alloc w (Obj.cells (arrK .u64 4 (wd a)) 41)
  have hA : NumAt (w.alloc (Obj.cells (arrK .u64 4 (wd a)) 41)) w.heap.size a := At.new _ rfl
  go_enter Tryd.func34, Tryd.ntmps34
  go_wp2
  generalize (w.alloc (Obj.cells (arrK .u64 4 (wd a)) 41)) = W0 at *
  go_loop [3] (fun i => ∃ s : Nat, i = .int .i64 ((s : Int) - 1) ∧ s ≤ 4 ∧ Hid (a / 2 ^ (64 * s) = 0)) (fun i => (intOf i + 1).toNat)
  case atStart => exact ⟨4, rfl, by omega, Lib.hid (Nat.div_eq_of_lt ha)⟩
  case round =>
    obtain ⟨s, rfl, hs, hH⟩ := hrel
    rcases Nat.eq_zero_or_pos s with rfl | hs0
    · have e : a = 0 := by have := hH.out; simpa using this
      subst e
      clear hH
      go_wp2
      go_ret
      exact ⟨0, rfl, ⟨by omega, .inl rfl⟩, hL⟩
    · obtain ⟨i, rfl⟩ : ∃ i, s = i + 1 := ⟨s - 1, by omega⟩
      rw [show (((i + 1 : Nat) : Int) - 1) = (i : Int) by omega]
      have c := hA.cell (i := i) (by omega)
      by_cases h0 : wd a i = 0
      · have hH2 : Hid (a / 2 ^ (64 * i) = 0) := by
          have h1 := hH.out
          refine Lib.hid ?_
          unfold wd at h0
          rw [show 64 * (i + 1) = 64 * i + 64 by omega, Nat.pow_add, ← Nat.div_div_eq_div_mul] at h1
          have := Nat.div_add_mod (a / 2 ^ (64 * i)) (2 ^ 64)
          rw [h1, h0] at this
          omega
        rw [h0] at c
        clear h0 hH
        go_wp2
        go_round
        case rel => exact ⟨i, rfl, by omega, hH2⟩
        case measure => simp [intOf]
      · have hl := len_words (r := Lib.bitLen (wd a i)) hH.out (bitLen_is 64 _ (wd_lt a i)) h0
        have hlt := wd_lt a i
        have hc := Lib.hid (bits_Len64 (wd a i) W0 hlt)
        have hr64 : Lib.bitLen (wd a i) ≤ 64 := Lib.bitLenAux_le 64 _ 64 hlt
        have hb : (((wd a i : Nat) : Int) != 0) = true := by rw [bne_iff_ne]; omega
        have hHl := Lib.hid hl
        clear hl hH
        generalize Lib.bitLen (wd a i) = r at *
        generalize wd a i = x at *
        go_wp2_with (go_at_call 64; refine hc.out.mono ?_; rintro e w' ⟨rfl, rfl⟩)
        go_ret
        exact ⟨64 * i + r, ret_int (by push_cast; rfl), hHl.out, hL⟩

theorem limb_Sh0 (a : Nat) (n : Int) (w : World) (hn : n < -255 ∨ 255 < n) :
    Calls Tryd.prog 36 #[numV a, .int .i64 n] w fun e w' => e = .returned (numV 0) ∧ Below w.heap.size w w' := by
  unfold numV
  have hL : Below w.heap.size w (((w.alloc (Obj.cells (arrK .u64 4 (wd a)) 41)).alloc (Obj.cells (arrK .u64 4 (wd 0)) 41)).alloc (Obj.cells (arrK .u64 4 (wd 0)) 41)) := by go_grown
  have hO : Row (((w.alloc (Obj.cells (arrK .u64 4 (wd a)) 41)).alloc (Obj.cells (arrK .u64 4 (wd 0)) 41)).alloc (Obj.cells (arrK .u64 4 (wd 0)) 41)) (w.heap.size + 1) 4 := ((At.new (k := .u64) (f := wd 0) _ (by simp)).old _).row
  have hZ : NumAt (((w.alloc (Obj.cells (arrK .u64 4 (wd a)) 41)).alloc (Obj.cells (arrK .u64 4 (wd 0)) 41)).alloc (Obj.cells (arrK .u64 4 (wd 0)) 41)) (w.heap.size + 1 + 1) 0 := At.new _ (by simp)
  have hRz := hZ.row
  have hrz := hZ.eq
  have hcs := arrK_cells .u64 4 (wd 0)
  clear hZ
  rw [← zeroNum] at *
  by_cases h1 : 255 < n
  · have hd : decide (255 < n) = true := by simpa using h1
    go_enter Tryd.func36, Tryd.ntmps36
    go_wp2
    exact ret_stored (p := 4) (ty := 41) (g := w.heap.size + 1) (n := 4) rfl Tryd.underlying41 rfl (by kernel_rfl) rfl hO hcs.1 rfl ⟨rfl, below_setRow hL (by omega)⟩
  · have hd : decide (255 < n) = false := by simpa using h1
    have hd2 : decide (n < -255) = true := by simp; omega
    go_enter Tryd.func36, Tryd.ntmps36
    go_wp2
    exact ret_stored (p := 4) (ty := 41) (g := w.heap.size + 1) (n := 4) rfl Tryd.underlying41 rfl (by kernel_rfl) rfl hO hcs.1 rfl ⟨rfl, below_setRow hL (by omega)⟩

end Go.Proofs.YtdlmamnnamlleaaDoor
namespace Go.Proofs.YtdlmamnnamlleaaDoor
open Go.ChangeShapes Go.WideShapes Go.ChangeAt Go.RowKit
section
variable {P : Program} {ops : Array Oper} {rest : List Oper} {o : Oper} {a : Act} {w : World} {K : Act → World → Prop} {Q : Exit → Act → World → Prop} {t : TypeId} {i : Nat} {x : Operand} {u vx : Value}
theorem wp_bldA (ho : o.op = .build t #[(i, x)]) (hx : a.eval x = vx) (hr : (Instr.build t #[(i, vx)]).run P w = .ok u w) (h : K (a.put o.dst u) w) : Oper.wp P o a w K Q := by
  subst hx
  obtain ⟨dst, op, tt, pos, af, gd⟩ := o
  subst ho
  unfold Oper.wp execOp
  simp only [List.map_toArray, List.map_cons, List.map_nil, Sem.run_bind, hr, Result.andThen_ok]
  exact h
theorem wpList_bldA (hgd : o.guard = none) (ho : o.op = .build t #[(i, x)]) (hx : a.eval x = vx) (hr : (Instr.build t #[(i, vx)]).run P w = .ok u w) (h : wpList P ops Q rest (a.put o.dst u) w) : wpList P ops Q (o :: rest) a w :=
  wpList_step fun K hK => by
    have hw : Region.wanted o (yielded ops a.tmps) = true := by simp [Region.wanted, hgd]
    rw [if_pos hw]
    exact wp_bldA ho hx hr (hK _ _ h)
end
end Go.Proofs.YtdlmamnnamlleaaDoor
namespace Go.Proofs.YtdlmamnnamlleaaDoor
open Go Go.RowKit
section
variable {P : Program} {ops : Array Oper} {Q : Exit → Act → World → Prop}
theorem calm_step_skip {R : Nat → SRel} {a0 : Act} {w0 : World} {i g : Nat} {b : Bool} {d : Tmp} {o : Oper} (hg : o.guard = some (g, b)) (hd : dstAt ops g = some d)
    (hv : ∀ (a : Act) (w : World), Came ops R o a w → a.tmps[d]?.getD undef = .bool (!b)) (hR : ∀ w, (R i).p undef w) : StepOk P ops Q R a0 w0 i o := by
  intro a w K hb hu hc hK
  have hy : yielded ops a.tmps g = some (!b) := by
    have h1 := hv a w hc
    unfold dstAt at hd
    unfold yielded
    rw [hd, Option.bind_some]
    cases h2 : a.tmps[d]? with
    | none => rw [h2] at h1; cases h1
    | some v => rw [h2] at h1; have : v = .bool (!b) := h1; rw [this]
  rw [if_neg (by simp [Region.wanted, hg, hy])]
  exact hK undef w (hR w) (Below.refl _ _)
theorem wp_eqlA {dst : Option Tmp} {t t2 tt : TypeId} {x y : Operand} {pos : String} {af : Array Edge} {gd : Option (Nat × Bool)} {a : Act} {w : World} {K : Act → World → Prop} {v u : Array Value} {r : Value} {b : BinOp}
    (hb : b = .neq ∨ b = .eql) (hm : P.eqGuardType P.depth t = false) (hx : a.eval x = .agg v) (hy : a.eval y = .agg u) (h : (binOp b t (.agg v) (.agg u)).run P w = .ok r w) (hK : K (a.put dst r) w) : Oper.wp P ⟨dst, .binOp b t x y t2, tt, pos, af, gd⟩ a w K Q := by
  have hg := run_eqGuard_agg (P := P) (w := w) b t x y v u hm
  unfold Oper.wp execOp
  rcases hb with rfl | rfl <;>
  · simp only [hx, hy, Sem.run_bind, Sem.run_pure, hg, h, Result.andThen_ok]
    exact hK
end
theorem eqlOf {a b : Nat} (ha : a < 2 ^ 256) (hb : b < 2 ^ 256) {r : Bool} (h : decide (a = b) = r) (W : World) : (binOp .eql 41 (.agg (arrK .u64 4 (wd a))) (.agg (arrK .u64 4 (wd b)))).run Tryd.prog W = .ok (.bool r) W := h ▸ eqlNum ha hb W
theorem neqOf {a b : Nat} (ha : a < 2 ^ 256) (hb : b < 2 ^ 256) {r : Bool} (h : decide (a = b) = !r) (W : World) : (binOp .neq 41 (.agg (arrK .u64 4 (wd a))) (.agg (arrK .u64 4 (wd b)))).run Tryd.prog W = .ok (.bool r) W := by
  rw [neqNum ha hb W, h, Bool.not_not]
end Go.Proofs.YtdlmamnnamlleaaDoor
namespace Go.Proofs.YtdlmamnnamlleaaDoor
open Go.ChangeShapes Go.WideShapes Go.ChangeAt Go.RowKit
set_option maxHeartbeats 2000000
set_option maxRecDepth 100000
/-- The try-th number: the low L bits of 32 bytes. -/
def tryX (K : Nat → W32) (seed : List UInt8) (L p j : Nat) : Nat := bval (fun i => dwB K seed (plc p (32 * j + i))) 32 % 2 ^ L
/-- The first below m, and how many bytes were drawn. -/
def BelIs (K : Nat → W32) (seed : List UInt8) (m L p x n : Nat) (z : Int) : Prop :=
  (∃ j < 100, (∀ i < j, ¬ tryX K seed L p i < m) ∧ tryX K seed L p j < m ∧ x = tryX K seed L p j ∧ n = 32 * (j + 1) ∧ z = 0) ∨ ((∀ i < 100, ¬ tryX K seed L p i < m) ∧ x = 0 ∧ n = 3200 ∧ z = 6)
theorem BelIs.only {K : Nat → W32} {seed : List UInt8} {m L p x n x' n' : Nat} {z z' : Int} (h : BelIs K seed m L p x n z) (h' : BelIs K seed m L p x' n' z') : x = x' ∧ n = n' ∧ z = z' := by
  rcases h with ⟨j, hj, h1, h2, rfl, rfl, rfl⟩ | ⟨h1, rfl, rfl, rfl⟩ <;> rcases h' with ⟨i, hi, k1, k2, rfl, rfl, rfl⟩ | ⟨k1, rfl, rfl, rfl⟩
  · have : j = i := by
      rcases Nat.lt_trichotomy j i with e | e | e
      · exact absurd h2 (k1 j e)
      · exact e
      · exact absurd k2 (h1 i e)
    subst this
    exact ⟨rfl, rfl, rfl⟩
  · exact absurd h2 (k1 j hj)
  · exact absurd k2 (h1 i hi)
  · exact ⟨rfl, rfl, rfl⟩
theorem BelIs.lt {K : Nat → W32} {seed : List UInt8} {m L p x n : Nat} {z : Int} (h : BelIs K seed m L p x n z) (hm : 0 < m) : x < m := by
  rcases h with ⟨j, -, -, h2, rfl, -, -⟩ | ⟨-, rfl, -, -⟩
  · exact h2
  · exact hm
theorem sub_one {m : Nat} (h : m ≠ 0) (hm : m < 2 ^ 256) : subN m 1 = m - 1 := by
  unfold subN
  rw [show m + 2 ^ 256 - 1 = m - 1 + 2 ^ 256 by omega, Nat.add_mod_right, Nat.mod_eq_of_lt (by omega)]
/-- Shifted up and down again: the low bits. -/
theorem shift_two (x L : Nat) (hx : x < 2 ^ 256) (hL : L ≤ 256) : ∃ y, (∀ V, Calls Tryd.prog 36 #[numV x, .int .i64 ((256 - L : Nat) : Int)] V fun e w' => e = .returned (numV y) ∧ Below V.heap.size V w') ∧ (∀ V, Calls Tryd.prog 36 #[numV y, .int .i64 (-((256 - L : Nat) : Int))] V fun e w' => e = .returned (numV (x % 2 ^ L)) ∧ Below V.heap.size V w') := by
  obtain ⟨n, hn⟩ : ∃ n, 256 - L = n := ⟨_, rfl⟩
  rw [hn]
  rcases Nat.eq_zero_or_pos n with h0 | h0
  · have hLe : L = 256 := by omega
    subst h0 hLe
    exact ⟨x, fun V => limb_Shl x 0 x V (by omega) (by rw [Nat.pow_zero, Nat.mul_one, Nat.mod_eq_of_lt hx]), fun V => limb_Shl x 0 (x % 2 ^ 256) V (by omega) (by rw [Nat.pow_zero, Nat.mul_one])⟩
  · rcases Nat.lt_or_ge n 256 with h1 | h1
    · refine ⟨x * 2 ^ n % 2 ^ 256, fun V => limb_Shl x n _ V (by omega) rfl, fun V => limb_Shr _ n _ V (Nat.mod_lt _ (by decide +kernel)) (by omega) h0 ?_⟩
      rw [show (2 : Nat) ^ 256 = 2 ^ L * 2 ^ n from by rw [← Nat.pow_add]; congr 1; omega, Nat.mul_mod_mul_right, Nat.mul_div_cancel _ (Nat.pow_pos (by omega))]
    · have hLe : L = 0 := by omega
      subst hLe
      refine ⟨0, fun V => limb_Sh0 x _ V (.inr (by omega)), fun V => ?_⟩
      rw [Nat.pow_zero, Nat.mod_one]
      exact limb_Sh0 0 _ V (.inl (by omega))
theorem plc_plc_at {p j P : Nat} (h : plc p (32 * j) = P) : plc P 32 = plc p (32 * (j + 1)) := by rw [← h, plc_plc, Nat.mul_succ]
theorem dg0 (K : Nat → W32) (seed : List UInt8) (P : Nat) : dgA [] = arrK .u8 32 (dwF K seed P 0) := by
  unfold dgA
  exact arrK_congr fun i _ => by unfold dwF; rw [if_neg (by omega)]; rfl
attribute [local irreducible] arrV dgA sha macA macZ srcB
attribute [local go_sem ↓] load_num store_num execl_num execs_num load_o32 store_o32
attribute [local go_sem] isHead_mk isPart_mk offOf_mk blkOf_mk isAgg_mk cellsV_mk row_drew rowAt_drew row_new_cells row_old rowAt_new rowAt_old setRow_new zeroD zeroNum
def BelR (K : Nat → W32) (w0 : World) (seed : List UInt8) (m L p : Nat) (w : World) (e : Ending) (w' : World) : Prop :=
  ∃ (x n : Nat) (z : Int), e = .returned (.tuple #[numV x, .int .i64 z]) ∧ BelIs K seed m L p x n z ∧ Src K w0 seed (plc p n) w' ∧ KbG w0.heap.size w w'
theorem lit_one : #[Value.int IntKind.u64 1, Value.int IntKind.u64 0, Value.int IntKind.u64 0, Value.int IntKind.u64 0] = arrK .u64 4 (wd 1) := by kernel_rfl
theorem build_oneD (w : World) : (Instr.build 41 #[(0, Value.int IntKind.u64 (1 : Int))]).run Tryd.prog w = .ok (.agg (arrK .u64 4 (wd 1))) w := (run_build w _ _ _ (by kernel_rfl)).trans (by rw [← lit_one])
theorem src_BelowNone (w0 : World) (w : World) :
    Calls Tryd.prog 13 #[.pointer (some ⟨w0.heap.size, 0, none⟩), numV 0] w fun e w' => e = .returned (.tuple #[numV 0, .int .i64 1]) ∧ Below w.heap.size w w' := by
  unfold numV
  have hc0 := arrK_cells .u64 4 (wd 0)
  have hL0 : Below w.heap.size w (((w.alloc (Obj.cells (arrK .u64 4 (wd 0)) 41)).alloc (Obj.cells (arrK .u64 4 (wd 0)) 41)).alloc (Obj.cells (arrK .u64 4 (wd 0)) 41)) := by go_grown
  have kE := fun V => eqlNum (a := 0) (b := 0) (by decide +kernel) (by decide +kernel) V
  rw [decide_eq_true rfl] at kE
  have kEh := Lib.hid kE
  have hL := Lib.hid hL0
  have h3 : At (((w.alloc (Obj.cells (arrK .u64 4 (wd 0)) 41)).alloc (Obj.cells (arrK .u64 4 (wd 0)) 41)).alloc (Obj.cells (arrK .u64 4 (wd 0)) 41)) w.heap.size .u64 4 (wd 0) := ((At.new _ rfl).old _).old _
  have h4 : At (((w.alloc (Obj.cells (arrK .u64 4 (wd 0)) 41)).alloc (Obj.cells (arrK .u64 4 (wd 0)) 41)).alloc (Obj.cells (arrK .u64 4 (wd 0)) 41)) (w.heap.size + 1) .u64 4 (wd 0) := (At.new _ (by simp)).old _
  have h6 : At (((w.alloc (Obj.cells (arrK .u64 4 (wd 0)) 41)).alloc (Obj.cells (arrK .u64 4 (wd 0)) 41)).alloc (Obj.cells (arrK .u64 4 (wd 0)) 41)) (w.heap.size + 1 + 1) .u64 4 (wd 0) := At.new _ (by simp)
  clear kE hL0
  go_enter Tryd.func13, Tryd.ntmps13
  go_upto_region 2 with (fail)
  generalize ((w.alloc _).alloc _).alloc _ = W0 at *
  obtain ⟨r3, q3⟩ := h3
  obtain ⟨r4, q4⟩ := h4
  obtain ⟨r6, q6⟩ := h6
  go_wp2_with (refine wpList_opT (by go_simp) (fun K9 hK => wp_eqlA (.inr rfl) (by kernel_rfl) (v := arrK .u64 4 (wd 0)) (u := arrK .u64 4 (wd 0)) (by go_simp) (by go_simp) (kEh.out _) (hK _ _ ?_)))
  exact ret_stored2 (p := 4) (q := 5) (ty := 41) (g := w.heap.size + 1) (n := 4) (c := arrK .u64 4 (wd 0)) rfl Tryd.underlying41 rfl (by kernel_rfl) rfl r4 hc0.1 rfl ⟨rfl, below_setRow hL.out (by omega)⟩
theorem src_Below (K : Nat → W32) (w0 : World) (seed : List UInt8) (p m L : Nat) (w : World) (h : Src K w0 seed p w) (hT : Tabs K w0) (hm0 : m ≠ 0) (hm : m < 2 ^ 256) (hLen : IsLen (m - 1) L) :
    Calls Tryd.prog 13 #[.pointer (some ⟨w0.heap.size, 0, none⟩), numV m] w (BelR K w0 seed m L p w) := by
  have hL256 : L ≤ 256 := by
    rcases hLen.2 with e | e
    · omega
    · rcases Nat.lt_or_ge 256 L with h2 | h2
      · have := Nat.pow_le_pow_right (n := 2) (by omega) (show 256 ≤ L - 1 by omega)
        omega
      · exact h2
  have kS := Lib.hid (fun V => by have := limb_Sub m 1 V hm (by decide +kernel); rwa [sub_one hm0 hm] at this)
  have kLn := Lib.hid (fun V => limb_Len (m - 1) V (by omega))
  have kE := fun V => eqlNum (a := m) (b := 0) hm (by decide +kernel) V
  rw [decide_eq_false hm0] at kE
  have kEh := Lib.hid kE
  have hmh := Lib.hid (And.intro hm0 (And.intro hm hLen))
  have hLh := Lib.hid hL256
  unfold numV at kS kLn
  unfold numV
  have hc0 := arrK_cells .u64 4 (wd 0)
  have hcm := arrK_cells .u64 4 (wd m)
  obtain ⟨m1, hm1⟩ : ∃ x, m - 1 = x := ⟨_, rfl⟩
  rw [hm1] at kS kLn
  have hm1h := Lib.hid hm1
  have hc1 := arrK_cells .u64 4 (wd m1)
  have hL0 : Below w.heap.size w (((w.alloc (Obj.cells (arrK .u64 4 (wd m)) 41)).alloc (Obj.cells (arrK .u64 4 (wd 0)) 41)).alloc (Obj.cells (arrK .u64 4 (wd 0)) 41)) := by go_grown
  have hS := Lib.hid (h.step hL0)
  have hpl := Lib.hid h.pl
  have hlt := Lib.hid h.lt
  have hKb := Lib.hid (KbG.of (g := w0.heap.size) hL0)
  have hTh := Lib.hid hT
  have h3 := Lib.hid (show At (((w.alloc (Obj.cells (arrK .u64 4 (wd m)) 41)).alloc (Obj.cells (arrK .u64 4 (wd 0)) 41)).alloc (Obj.cells (arrK .u64 4 (wd 0)) 41)) w.heap.size .u64 4 (wd m) from ((At.new _ rfl).old _).old _)
  have h4 := Lib.hid (show At (((w.alloc (Obj.cells (arrK .u64 4 (wd m)) 41)).alloc (Obj.cells (arrK .u64 4 (wd 0)) 41)).alloc (Obj.cells (arrK .u64 4 (wd 0)) 41)) (w.heap.size + 1) .u64 4 (wd 0) from (At.new _ (by simp)).old _)
  have h6 := Lib.hid (show At (((w.alloc (Obj.cells (arrK .u64 4 (wd m)) 41)).alloc (Obj.cells (arrK .u64 4 (wd 0)) 41)).alloc (Obj.cells (arrK .u64 4 (wd 0)) 41)) (w.heap.size + 1 + 1) .u64 4 (wd 0) from At.new _ (by simp))
  clear kE hL0 h hT hm0 hm hLen hm1 hL256
  go_enter Tryd.func13, Tryd.ntmps13
  go_upto_region 2 with (fail)
  generalize ((w.alloc _).alloc _).alloc _ = W0 at *
  have r3 := h3.out.row
  have q3 := h3.out.eq
  have r6 := h6.out.row
  have q6 := h6.out.eq
  go_upto_region 4 with (refine wpList_opT (by go_simp) (fun K9 hK => wp_eqlA (.inr rfl) (by kernel_rfl) (v := arrK .u64 4 (wd m)) (u := arrK .u64 4 (wd 0)) (by go_simp) (by go_simp) (kEh.out _) (hK _ _ ?_)))
  go_wp2_with (refine wpList_opT (by go_simp) (fun K9 hK => wp_bldA rfl (vx := Value.int IntKind.u64 (1 : Int)) rfl (build_oneD _) (hK _ _ ?_)))
  refine (kS.out W0).mono ?_
  rintro e w1 ⟨rfl, hb⟩
  have hbA := below_step (below_alloc w1 (Obj.cells (arrK .u64 4 (wd m1)) 41)) hb (Nat.le_refl _)
  replace hS := Lib.hid (hS.out.step hbA)
  replace hKb := Lib.hid (hKb.out.trans (KbG.of hbA))
  replace h3 := Lib.hid (h3.out.step hbA)
  replace h4 := Lib.hid (h4.out.step hbA)
  replace h6 := Lib.hid (h6.out.step hbA)
  have h7 := Lib.hid (At.new (w := w1) (k := .u64) (m := 4) (f := wd m1) 41 rfl)
  clear hb hbA kS r3 q3 r6 q6 kEh
  dsimp only
  go_upto_region 5 with (fail)
  generalize w1.alloc _ = W1 at *
  generalize w1.heap.size = g7 at *
  have r7 := h7.out.row
  have q7 := h7.out.eq
  go_wp2_with fail
  refine (kLn.out W1).mono ?_
  rintro e w2 ⟨L2, rfl, hL2, hb⟩
  obtain rfl : L2 = L := hL2.only (hm1h.out ▸ hmh.out.2.2)
  replace hS := Lib.hid (hS.out.step hb)
  replace hKb := Lib.hid (hKb.out.trans (KbG.of hb))
  replace h3 := Lib.hid (h3.out.step hb)
  replace h4 := Lib.hid (h4.out.step hb)
  replace h6 := Lib.hid (h6.out.step hb)
  have hws : IntKind.i64.wrap ((L2 : Int) - 256) = (L2 : Int) - 256 := by rw [IntKind.wrap_i64]; have := hLh.out; omega
  clear hb hL2 kLn r7 q7 h7
  go_upto_region 7 with (fail)
  clear hws
  obtain ⟨oo, hoo⟩ : ∃ o : Int, (L2 : Int) - 256 = o := ⟨_, rfl⟩
  rw [hoo]
  have hng : IntKind.i64.wrap (-oo) = ((256 - L2 : Nat) : Int) := by rw [IntKind.wrap_i64]; have := hLh.out; omega
  have hoh := Lib.hid (show -((256 - L2 : Nat) : Int) = oo by have := hLh.out; omega)
  clear hoo
  go_loopw [26] (fun jv wr => ∃ j : Nat, jv = .int .i64 j ∧ j ≤ 100 ∧ Hid (∀ i < j, ¬ tryX K seed L2 p i < m) ∧ Hid (Src K w0 seed (plc p (32 * j)) wr) ∧ Hid (KbG w0.heap.size w wr) ∧ Hid (At wr w.heap.size .u64 4 (wd m)) ∧ Hid (At wr (w.heap.size + 1) .u64 4 (wd 0)) ∧ Hid (At wr (w.heap.size + 1 + 1) .u64 4 (wd 0))) (fun jv _ => 100 - (intOf jv).toNat)
  case atStart => exact ⟨0, rfl, by omega, Lib.hid (fun i hi => absurd hi (by omega)), by rw [Nat.mul_zero, plc_zero hpl.out]; exact hS, hKb, h3, h4, h6⟩
  case round =>
    clear hS hKb h3 h4 h6
    obtain ⟨j, rfl, hj, hNo, hS, hKb, h3, h4, h6⟩ := hrel
    by_cases hj1 : j = 100
    · subst hj1
      have d1 : decide (((100 : Nat) : Int) < 100) = false := by decide
      have r6 := h6.out.row
      have q6 := h6.out.eq
      have r4 := h4.out.row
      have hfin := Lib.hid (show Src K w0 seed (plc p 3200) (wr.setRow (w.heap.size + 1) (arrK .u64 4 (wd 0))) ∧ KbG w0.heap.size w (wr.setRow (w.heap.size + 1) (arrK .u64 4 (wd 0))) from
        ⟨hS.out.far (by have := hlt.out; omega), ⟨by simpa [World.setRow] using hKb.out.size, fun k hk hg => (setRow_other wr _ k _ (by omega)).trans (hKb.out.block k hk hg)⟩⟩)
      rw [show ((100 : Nat) : Int) = (100 : Int) from rfl] at *
      go_wp2_with fail
      exact ret_stored2 (p := 4) (q := 5) (ty := 41) (g := w.heap.size + 1) (n := 4) (c := arrK .u64 4 (wd 0)) rfl Tryd.underlying41 rfl (by kernel_rfl) rfl r4 hc0.1 rfl ⟨0, 3200, 6, rfl, .inr ⟨hNo.out, rfl, rfl, rfl⟩, hfin.out.1, hfin.out.2⟩
    · have hjl : j < 100 := by omega
      have d1 : decide ((j : Int) < 100) = true := by simp; omega
      have hji : (j : Int) < 100 := by omega
      have hj0 : (0 : Int) ≤ (j : Int) := by omega
      have hcz := dgA_cells []
      obtain ⟨P, hP⟩ : ∃ P, plc p (32 * j) = P := ⟨_, rfl⟩
      rw [hP] at hS
      have hPh := Lib.hid hP
      clear hP
      go_upto_region 10 with (fail)
      have hbA := below_alloc wr (Obj.cells (dgA []) 57)
      have hB := Lib.hid (show At (wr.alloc (Obj.cells (dgA []) 57)) wr.heap.size .u8 32 (dwF K seed P 0) from ⟨(row_new rfl).2 hcz.1, (rowAt_new rfl).trans (dg0 _ _ _)⟩)
      have hgl := Lib.hid (show w.heap.size + 1 + 1 < wr.heap.size from h6.out.lt)
      have hPl := Lib.hid hS.out.pl
      replace hS := Lib.hid (hS.out.step hbA)
      replace hKb := Lib.hid (hKb.out.trans (KbG.of hbA))
      replace h3 := Lib.hid (h3.out.step hbA)
      replace h4 := Lib.hid (h4.out.step hbA)
      replace h6 := Lib.hid (h6.out.step hbA)
      clear hbA
      generalize wr.alloc _ = W2 at *
      generalize wr.heap.size = gb at *
      go_loopw [28] (fun kv wx => ∃ k : Nat, kv = .int .i64 k ∧ k ≤ 32 ∧ Hid (At wx gb .u8 32 (dwF K seed P k)) ∧ Hid (Src K w0 seed (plc P k) wx) ∧ Hid (KbG w0.heap.size w wx) ∧ Hid (At wx w.heap.size .u64 4 (wd m)) ∧ Hid (At wx (w.heap.size + 1) .u64 4 (wd 0)) ∧ Hid (At wx (w.heap.size + 1 + 1) .u64 4 (wd 0))) (fun kv _ => 32 - (intOf kv).toNat)
      case atStart => exact ⟨0, rfl, by omega, hB, by rw [plc_zero hPl.out]; exact hS, hKb, h3, h4, h6⟩
      case round =>
        clear hB hS hKb h3 h4 h6
        obtain ⟨k, rfl, hk, hB, hS, hKb, h3, h4, h6⟩ := hrel
        by_cases hk32 : k = 32
        · subst hk32
          have e1 : decide (((32 : Nat) : Int) < 32) = false := by decide
          have hB2 := hB.out.congr (f' := fun i => dwB K seed (plc p (32 * j + i))) (fun i hi => by unfold dwF; rw [if_pos hi, ← hPh.out, plc_plc])
          obtain ⟨f, hf⟩ : ∃ f, (fun i => dwB K seed (plc p (32 * j + i))) = f := ⟨_, rfl⟩
          have hf256 : ∀ i < 32, f i < 256 := fun i _ => by rw [← hf]; exact dwB_lt _ _ _
          have htx : tryX K seed L2 p j = bval f 32 % 2 ^ L2 := by unfold tryX; rw [hf]
          rw [hf] at hB2
          have hx0 : bval f 32 < 2 ^ 256 := by
            have h9 := bval_lt hf256
            rwa [show 256 ^ 32 = 2 ^ 256 by decide +kernel] at h9
          have kO := Lib.hid (fun V => limb_Of f V hf256)
          obtain ⟨x0, hx0e⟩ : ∃ x, bval f 32 = x := ⟨_, rfl⟩
          rw [hx0e] at kO htx hx0
          obtain ⟨y, k1, k2⟩ := shift_two x0 L2 hx0 hLh.out
          have hxl : x0 % 2 ^ L2 < 2 ^ 256 := Nat.lt_of_le_of_lt (Nat.mod_le _ _) hx0
          obtain ⟨x, hx⟩ : ∃ x, x0 % 2 ^ L2 = x := ⟨_, rfl⟩
          rw [hx] at k2 htx hxl
          rw [hoh.out] at k2
          unfold numV at k1 k2 kO
          have kA := Lib.hid k1
          have kB := Lib.hid k2
          have kC := Lib.hid (fun V => limb_Cmp x m V hxl hmh.out.2.1)
          unfold numV at kC
          have htxh := Lib.hid htx
          have hcx := arrK_cells .u64 4 (wd x)
          have hBh := Lib.hid hB2
          rw [plc_plc_at hPh.out] at hS
          clear hB hB2 hf hf256 hx0 hx0e k1 k2 hxl hx htx
          have rb := hBh.out.row
          have qb := hBh.out.eq
          rw [show ((32 : Nat) : Int) = (32 : Int) from rfl] at *
          go_upto_region 14 with (fail)
          go_wp2_with fail
          refine (kO.out wr).mono ?_
          rintro e w3 ⟨rfl, hb1⟩
          clear rb qb
          go_wp2_with fail
          refine (kA.out w3).mono ?_
          rintro e w4 ⟨rfl, hb2⟩
          go_wp2_with fail
          refine (kB.out w4).mono ?_
          rintro e w5 ⟨rfl, hb3⟩
          have hbA := below_step (below_alloc w5 (Obj.cells (arrK .u64 4 (wd x)) 41)) (below_step hb3 (below_step hb2 hb1 (Nat.le_refl _)) (Nat.le_refl _)) (Nat.le_refl _)
          replace hS := Lib.hid (hS.out.step hbA)
          replace hKb := Lib.hid (hKb.out.trans (KbG.of hbA))
          replace h3 := Lib.hid (h3.out.step hbA)
          replace h4 := Lib.hid (h4.out.step hbA)
          replace h6 := Lib.hid (h6.out.step hbA)
          have hX := Lib.hid (At.new (w := w5) (k := .u64) (m := 4) (f := wd x) 41 rfl)
          clear hb1 hb2 hb3 hbA kO kA kB hBh hng hoh
          dsimp only
          go_upto_region 15 with (fail)
          generalize w5.alloc _ = W6 at *
          have hxg := Lib.hid hX.out.lt
          generalize w5.heap.size = gx at *
          have rx := hX.out.row
          have qx := hX.out.eq
          have r3 := h3.out.row
          have q3 := h3.out.eq
          go_wp2_with fail
          refine (kC.out W6).mono ?_
          rintro e w7 ⟨rfl, hb⟩
          replace hS := Lib.hid (hS.out.step hb)
          replace hKb := Lib.hid (hKb.out.trans (KbG.of hb))
          replace h3 := Lib.hid (h3.out.step hb)
          replace h4 := Lib.hid (h4.out.step hb)
          replace h6 := Lib.hid (h6.out.step hb)
          replace hX := Lib.hid (hX.out.step hb)
          clear hb kC rx qx r3 q3
          by_cases hxm : x < m
          · rw [show order x m = -1 by unfold order; rw [if_pos hxm]]
            have rx := hX.out.row
            have qx := hX.out.eq
            have r4 := h4.out.row
            have hfin := Lib.hid (show Src K w0 seed (plc p (32 * (j + 1))) (w7.setRow (w.heap.size + 1) (arrK .u64 4 (wd x))) ∧ KbG w0.heap.size w (w7.setRow (w.heap.size + 1) (arrK .u64 4 (wd x))) from
              ⟨hS.out.far (by have := hlt.out; omega), ⟨by simpa [World.setRow] using hKb.out.size, fun k hk hg => (setRow_other w7 _ k _ (by omega)).trans (hKb.out.block k hk hg)⟩⟩)
            have hxmh := Lib.hid hxm
            clear hxm
            go_wp2_with fail
            exact ret_stored2 (p := 4) (q := 5) (ty := 41) (g := w.heap.size + 1) (n := 4) (c := arrK .u64 4 (wd x)) rfl Tryd.underlying41 rfl (by kernel_rfl) rfl r4 hcx.1 rfl ⟨x, 32 * (j + 1), 0, rfl, .inl ⟨j, hjl, hNo.out, by rw [htxh.out]; exact hxmh.out, htxh.out.symm, rfl, rfl⟩, hfin.out.1, hfin.out.2⟩
          · have ho : order x m = 0 ∨ order x m = 1 := by
              unfold order
              rw [if_neg hxm]
              split
              · exact .inr rfl
              · exact .inl rfl
            have hNo2 := Lib.hid (show ∀ i < j + 1, ¬ tryX K seed L2 p i < m from fun i hi => by
              rcases Nat.lt_or_ge i j with h9 | h9
              · exact hNo.out i h9
              · obtain rfl : i = j := by omega
                rw [htxh.out]; exact hxm)
            clear hxm
            rcases ho with ho | ho
            all_goals
              rw [ho]
              clear ho
              go_wp2_with fail
              refine ⟨⟨j + 1, by go_num, by omega, hNo2, hS, hKb, h3, h4, h6⟩, ?_⟩
              simp [intOf]; omega
        · have e1 : decide ((k : Int) < 32) = true := by simp; omega
          have hkl : k < 32 := by omega
          have hki : (k : Int) < 32 := by omega
          have hk0 : (0 : Int) ≤ (k : Int) := by omega
          have kN := Lib.hid (next_c K w0 seed (plc P k) wr hS.out hTh.out)
          go_upto_region 12 with (fail)
          go_wp2_with fail
          refine kN.out.mono ?_
          rintro e w3 ⟨rfl, hS1, hK1⟩
          rw [plc_plc] at hS1
          have hne : ∀ g, w.heap.size ≤ g → g ≠ w0.heap.size := fun g hg => by have := hlt.out; omega
          have hB1 := hB.out.kb hK1 (hne gb (by have := hgl.out; omega))
          have cb := hB1.cell hkl
          have fb := hB1.row.frozen k
          obtain ⟨bv, hbv⟩ : ∃ b, dwB K seed (plc P k) = b := ⟨_, rfl⟩
          have hB2 := Lib.hid ((hB1.set k bv).congr (f' := dwF K seed P (k + 1)) (by rw [← hbv]; exact dwF_succ K seed P k 32))
          have hS2 := Lib.hid (hS1.farC (g := gb) (i := k) (v := .int .u8 (bv : Nat)) (by have := hgl.out; have := hlt.out; omega))
          have hK2 := Lib.hid (show KbG w0.heap.size w (w3.setCell ⟨gb, k, none⟩ (.int .u8 (bv : Nat))) from ⟨by have := (hKb.out.trans hK1).size; simpa using this, fun i hi hg => (Below.heap_setCell w3 _ _ i (by simp; have := hgl.out; omega)).trans ((hKb.out.trans hK1).block i hi hg)⟩)
          have h32 := Lib.hid ((h3.out.kb hK1 (hne _ (by omega))).farC (a := ⟨gb, k, none⟩) (v := .int .u8 (bv : Nat)) (by simp; have := hgl.out; omega))
          have h42 := Lib.hid ((h4.out.kb hK1 (hne _ (by omega))).farC (a := ⟨gb, k, none⟩) (v := .int .u8 (bv : Nat)) (by simp; have := hgl.out; omega))
          have h62 := Lib.hid ((h6.out.kb hK1 (hne _ (by omega))).farC (a := ⟨gb, k, none⟩) (v := .int .u8 (bv : Nat)) (by simp; have := hgl.out; omega))
          rw [hbv]
          clear hB hS hKb h3 h4 h6 kN hS1 hK1 hB1 hbv hne
          go_wp2_with fail
          refine ⟨⟨k + 1, by go_num, hkl, hB2, hS2, hK2, h32, h42, h62⟩, ?_⟩
          simp [intOf]; omega
end Go.Proofs.YtdlmamnnamlleaaDoor
namespace Go.Proofs.YtdlmamnnamlleaaDoor
open Go.ChangeShapes Go.WideShapes Go.ChangeAt Go.RowKit
set_option maxHeartbeats 2000000
set_option maxRecDepth 100000
theorem conv_oneZ (z : Int) (b : UInt8) (hz : z = (b.toNat : Int)) (W : World) : (convert 22 9 (.slice (some ⟨W.heap.size, 0, none⟩) 1 1)).run Tryd.prog (W.alloc (.cells #[.int .u8 z] 5)) = .ok (strV [b]) (W.alloc (.cells #[.int .u8 z] 5)) := by
  subst hz
  exact conv_rd (B := W.heap.size + 1) (l := [b]) Tryd.underlying22 Tryd.underlying5 Tryd.underlying9 (Rd.of_blk (cs := #[.int .u8 (b.toNat : Int)]) (push_new _ _) (by omega))
theorem conv_oneOf {w : World} {g : Nat} {d : List UInt8} (hR : Row w g 32) (hE : rowAt w g = dgA d) {r : Nat} (hr : r < 32) (c : Nat) : (convert 22 9 (.slice (some ⟨g, r, none⟩) 1 c)).run Tryd.prog w = .ok (strV [UInt8.ofNat (bytesF d r)]) w := by
  refine conv_rd (B := w.heap.size) (l := [UInt8.ofNat (bytesF d r)]) Tryd.underlying22 Tryd.underlying5 Tryd.underlying9 (fun j u hu => ?_)
  have hj : j < 1 := by have := (List.getElem?_eq_some_iff.1 hu).1; simpa [bytesV] using this
  obtain rfl : j = 0 := by omega
  refine ⟨_, rfl, hR.lt, ?_⟩
  rw [show (Addr.mk g r none).add 0 = ⟨g, r, none⟩ by simp [Addr.add], hR.cell, hE]
  show (arrK .u8 32 (bytesF d))[r]? = _
  rw [arrK_at hr, ← hu]
  simp [bytesV, u8v, Nat.mod_eq_of_lt (bytesF_lt d r)]
theorem sl_at1 (g r : Nat) (hr : r < 32) (W : World) : (Instr.sliceAt 57 (.pointer (some ⟨g, 0, none⟩)) (some (.int .u64 (r : Int))) (some (.int .u64 ((r : Int) + 1))) none).run Tryd.prog W = .ok (.slice (some ⟨g, r, none⟩) 1 (32 - r)) W := by
  have hu : Tryd.prog.underlying 57 = some (.array (Tryd.prog.arrayLen 57) (Tryd.prog.elem 57)) := by kernel_rfl
  have hn : Tryd.prog.arrayLen 57 = 32 := by kernel_rfl
  have hs : (sizeOf (Tryd.prog.elem 57)).run Tryd.prog W = .ok 1 W := by kernel_rfl
  rw [run_sliceAt_array_lh W _ _ hu .u64 .u64 (r : Int) ((r : Int) + 1) (by omega) (by omega) (by rw [hn]; omega), hs, hn]
  have e1 : ((r : Int)).toNat = r := by simp
  have e2 : ((r : Int) + 1).toNat = r + 1 := by omega
  rw [e1, e2]
  unfold slicedAt
  simp only [Result.andThen_ok]
  rw [if_neg (by omega), Nat.add_sub_cancel_left]
  simp [Addr.add]
  exact fun e => e.symm
theorem be8_take (q x : Nat) (h : x < 8) : (be8 q).take (x + 1) = (be8 q).take x ++ [UInt8.ofNat (q / 2 ^ (56 - 8 * x))] := by
  rw [List.take_succ_eq_append_getElem (by rw [be8_len]; exact h)]
  congr 2
  unfold be8
  simp
theorem be8_all (q : Nat) : (be8 q).take 8 = be8 q := List.take_of_length_le (Nat.le_of_eq (be8_len q))
attribute [local irreducible] arrV dgA sha macA macZ srcB be8
attribute [local go_sem ↓] load_o32 store_o32
attribute [local go_sem] isHead_mk isPart_mk offOf_mk blkOf_mk isAgg_mk cellsV_mk row_drew rowAt_drew row_new_cells row_old rowAt_new rowAt_old setRow_new zeroD bs_app
theorem ref_Drawn (K : Nat → W32) (seed : List UInt8) (p N : Nat) (w : World) (hT : Tabs K w) (hN : N ≤ 4096) (hsl : seed.length ≤ 576460752303423488) :
    Calls Tryd.prog 18 #[strV seed, .int .u64 (p : Nat), .int .i64 (N : Nat)] w fun e w' => e = .returned (strV (bLs (fun i => dwB K seed (plc p i)) N)) ∧ Below w.heap.size w w' := by
  have hTh := Lib.hid hT
  have hcz := dgA_cells []
  clear hT
  go_enter Tryd.func18, Tryd.ntmps18
  go_upto_region 5 with (fail)
  have hL := Lib.hid (below_alloc w (Obj.cells (dgA []) 57))
  have hD := Lib.hid (show Row (w.alloc (Obj.cells (dgA []) 57)) w.heap.size 32 ∧ rowAt (w.alloc (Obj.cells (dgA []) 57)) w.heap.size = dgA [] from ⟨(row_new rfl).2 hcz.1, rowAt_new rfl⟩)
  generalize w.alloc _ = W0 at *
  go_loopw [7, 8, 16] (fun sv hv kv wr => ∃ (k have_ : Nat) (d : List UInt8), kv = .int .i64 k ∧ sv = strV (bLs (fun i => dwB K seed (plc p i)) k) ∧ hv = .int .u64 have_ ∧ k ≤ N ∧ Hid (Row wr w.heap.size 32 ∧ rowAt wr w.heap.size = dgA d) ∧ Hid (0 < k → have_ = plc p (k - 1) / 32 ∧ d = blkL K seed (plc p (k - 1))) ∧ Hid (Below w.heap.size w wr)) (fun _ _ kv _ => N - (intOf kv).toNat)
  case atStart => exact ⟨0, 0, [], rfl, rfl, rfl, Nat.zero_le _, hD, Lib.hid (fun h => absurd h (by omega)), hL⟩
  case round =>
    clear hD hL
    obtain ⟨k, have_, d, rfl, rfl, rfl, hk, hD, hH, hL⟩ := hrel
    by_cases hkN : k = N
    · subst hkN
      have d1 : decide ((k : Int) < (k : Int)) = false := by simp
      go_wp2_with fail
      go_ret
      exact ⟨rfl, hL.out⟩
    · have d1 : decide ((k : Int) < (N : Int)) = true := by simp; omega
      have hkl : k < N := by omega
      have hki : (k : Int) < (N : Int) := by omega
      have hk0 : (0 : Int) ≤ (k : Int) := by omega
      have hwk : IntKind.u64.wrap (k : Int) = (k : Int) := by rw [IntKind.wrap_u64]; omega
      have hwp : IntKind.u64.wrap ((p : Int) + (k : Int)) = ((plc p k : Nat) : Int) := by rw [IntKind.wrap_u64]; unfold plc; omega
      obtain ⟨place, hpl⟩ : ∃ x, plc p k = x := ⟨_, rfl⟩
      have hpl6 := Lib.hid (show place < 18446744073709551616 by rw [← hpl]; exact plc_lt _ _)
      rw [hpl] at hwp
      have hquo : Int.tdiv (place : Int) 32 = ((place / 32 : Nat) : Int) := by rw [Int.tdiv_eq_ediv_of_nonneg (by omega)]; omega
      obtain ⟨q, hq⟩ : ∃ q, place / 32 = q := ⟨_, rfl⟩
      rw [hq] at hquo
      have hqh := Lib.hid (show q < 576460752303423488 by have := hpl6.out; omega)
      have hwq : IntKind.u64.wrap (q : Int) = (q : Int) := by rw [IntKind.wrap_u64]; have := hqh.out; omega
      have hpe := Lib.hid hpl
      have hqe := Lib.hid hq
      clear hpl hq
      by_cases hrec : k = 0 ∨ q ≠ have_
      · have hgo : (((k : Int) == 0) = true) ∨ (((k : Int) == 0) = false ∧ ((q : Int) != (have_ : Int)) = true) := by
          by_cases hk00 : k = 0
          · subst hk00; exact .inl rfl
          · refine .inr ⟨by simp; omega, ?_⟩
            rcases hrec with e | e
            · exact absurd e hk00
            · simp; omega
        clear hrec hH
        rcases hgo with g1 | ⟨g1, g2⟩
        all_goals
          go_upto_region 13 with (fail)
          go_loopw [13, 33] (fun bv xv wx => ∃ x : Nat, xv = .int .i64 x ∧ bv = strV ((be8 q).take x) ∧ x ≤ 8 ∧ Hid (Row wx w.heap.size 32 ∧ rowAt wx w.heap.size = dgA d) ∧ Hid (Below w.heap.size w wx)) (fun _ xv _ => 8 - (intOf xv).toNat)
          case atStart => exact ⟨0, rfl, rfl, by omega, hD, hL⟩
          case round =>
            clear hD hL
            obtain ⟨x, rfl, rfl, hx, hD, hL⟩ := hrel
            by_cases hx8 : x = 8
            · subst hx8
              have e1 : decide (((8 : Nat) : Int) < 8) = false := by decide
              rw [be8_all]
              have kM := Lib.hid (ref_Mark K seed (be8 q) wr (hTh.out.below hL.out (Nat.le_refl _)) hsl (by rw [be8_len]; omega))
              have hbe := Lib.hid (show markL K seed (be8 q) = blkL K seed place by unfold blkL; rw [hqe.out])
              have hml := mark_len K seed (be8 q)
              obtain ⟨m, hm⟩ : ∃ m, markL K seed (be8 q) = m := ⟨_, rfl⟩
              rw [hm] at kM hbe hml
              have hcm := dgA_cells m
              clear hm
              rw [show ((8 : Nat) : Int) = (8 : Int) from rfl] at *
              go_upto_region 17 with (fail)
              go_wp2_with fail
              refine kM.out.mono ?_
              rintro e w3 ⟨rfl, hb⟩
              have hr0 := row_below hD.out.1 hb hD.out.1.lt
              have hL2 := Lib.hid (below_setRow (g := w.heap.size) (c := dgA m) (below_step hb hL.out (Nat.le_refl _)) (Nat.le_refl _))
              have hD2 := Lib.hid (show Row (w3.setRow w.heap.size (dgA m)) w.heap.size 32 ∧ rowAt (w3.setRow w.heap.size (dgA m)) w.heap.size = dgA m from ⟨(row_setRow_same rfl hr0).2 hcm.1, rowAt_setRow_same hr0⟩)
              clear hb hD hL kM hml
              go_upto_region 18 with (fail)
              generalize w3.setRow _ _ = W9 at *
              have hD := hD2
              have hL := hL2
              have hdv := hbe
              have hhv := Lib.hid (show q = plc p k / 32 by rw [hpe.out]; exact hqe.out.symm)
              clear hD2 hL2 hbe hr0 hquo hwq hwp hwk
              have hdb := hdv.out
              have hrl := Lib.hid (show place % 32 < 32 from Nat.mod_lt _ (by omega))
              obtain ⟨r, hr⟩ : ∃ r, place % 32 = r := ⟨_, rfl⟩
              rw [hr] at hrl
              have hrem : Int.tmod (place : Int) 32 = ((r : Nat) : Int) := by rw [Int.tmod_eq_emod_of_nonneg (by omega)]; omega
              have hr1 : IntKind.u64.wrap ((r : Int) + 1) = (r : Int) + 1 := by rw [IntKind.wrap_u64]; have := hrl.out; omega
              have hsa := fun W => sl_at1 w.heap.size r hrl.out W
              have hcv := conv_oneOf hD.out.1 hD.out.2 hrl.out (32 - r)
              have hval : bytesF m r = dwB K seed (plc p k) := by unfold dwB; rw [hpe.out, hr, hdb]
              rw [hval] at hcv
              have hss := Lib.hid (bLs_succ (fun i => dwB K seed (plc p i)) k)
              obtain ⟨bv, hbv⟩ : ∃ b, dwB K seed (plc p k) = b := ⟨_, rfl⟩
              rw [hbv] at hcv hss
              have hsl := Lib.hid (show (bLs (fun i => dwB K seed (plc p i)) k).length = k from bLs_len _ _)
              obtain ⟨s, hs⟩ : ∃ s, bLs (fun i => dwB K seed (plc p i)) k = s := ⟨_, rfl⟩
              rw [hs] at hss hsl ⊢
              have hadd : s.length + [UInt8.ofNat bv].length ≤ 9223372036854775807 := by rw [hsl.out]; simp; omega
              have hadd1 : s.length + 1 ≤ 9223372036854775807 := by rw [hsl.out]; omega
              have hnew := Lib.hid (show q = (plc p k) / 32 ∧ m = blkL K seed (plc p k) from ⟨hhv.out, by rw [hpe.out]; exact hdb⟩)
              clear hval hr hbv hs hdb hdv hhv
              go_upto_region 18 with (fail)
              go_wp2_with fail
              refine ⟨⟨k + 1, q, m, by go_num, by rw [hss.out], rfl, hkl, hD, Lib.hid (fun _ => by rw [Nat.add_sub_cancel]; exact hnew.out), hL⟩, ?_⟩
              simp [intOf]; omega
            · have e1 : decide ((x : Int) < 8) = true := by simp; omega
              have hxl : x < 8 := by omega
              have hxi : (x : Int) < 8 := by omega
              have hx0 : (0 : Int) ≤ (x : Int) := by omega
              have v1 : IntKind.i64.wrap (8 * (x : Int)) = 8 * (x : Int) := by rw [IntKind.wrap_i64]; omega
              have v2 : IntKind.i64.wrap (56 - 8 * (x : Int)) = 56 - 8 * (x : Int) := by rw [IntKind.wrap_i64]; omega
              have v3 : (0 : Int) ≤ 56 - 8 * (x : Int) := by omega
              have v4 : ¬ (56 - 8 * (x : Int) < 0) := by omega
              have hcv := fun W => conv_oneZ ((q : Int) / 2 ^ (56 - 8 * x) % 256) (UInt8.ofNat (q / 2 ^ (56 - 8 * x))) (by push_cast; simp) W
              have htk := Lib.hid (be8_take q x hxl)
              obtain ⟨bb, hbb⟩ : ∃ b, UInt8.ofNat (q / 2 ^ (56 - 8 * x)) = b := ⟨_, rfl⟩
              rw [hbb] at hcv htk
              have htl := Lib.hid (show ((be8 q).take x).length ≤ 8 by rw [List.length_take]; omega)
              obtain ⟨bs, hbs⟩ : ∃ b, (be8 q).take x = b := ⟨_, rfl⟩
              rw [hbs] at htk htl ⊢
              have hadd : bs.length + 1 ≤ 9223372036854775807 := by have := htl.out; omega
              have hadd2 : bs.length + [bb].length ≤ 9223372036854775807 := by have := htl.out; simp; omega
              clear hbb hbs
              go_wp2_with fail
              refine ⟨⟨x + 1, by go_num, by rw [htk.out], hxl, Lib.hid ⟨(row_old hD.out.1.lt).2 hD.out.1, (rowAt_old hD.out.1.lt).trans hD.out.2⟩, Lib.hid (hL.out.alloc hL.out.size _)⟩, ?_⟩
              simp [intOf]; omega
      · have hk1 : k ≠ 0 := fun e => hrec (.inl e)
        have hqh2 : q = have_ := by
          by_cases e : q = have_
          · exact e
          · exact absurd (.inr e) hrec
        subst hqh2
        have hk11 : ((k : Int) == 0) = false := by simp; omega
        have hdv := Lib.hid (show d = blkL K seed place by
          obtain ⟨h1, h2⟩ := hH.out (by omega)
          rw [h2]
          unfold blkL
          rw [hqe.out, h1])
        have hhv := Lib.hid (show q = plc p k / 32 by rw [hpe.out]; exact hqe.out.symm)
        clear hrec hH
        have hdb := hdv.out
        have hrl := Lib.hid (show place % 32 < 32 from Nat.mod_lt _ (by omega))
        obtain ⟨r, hr⟩ : ∃ r, place % 32 = r := ⟨_, rfl⟩
        rw [hr] at hrl
        have hrem : Int.tmod (place : Int) 32 = ((r : Nat) : Int) := by rw [Int.tmod_eq_emod_of_nonneg (by omega)]; omega
        have hr1 : IntKind.u64.wrap ((r : Int) + 1) = (r : Int) + 1 := by rw [IntKind.wrap_u64]; have := hrl.out; omega
        have hsa := fun W => sl_at1 w.heap.size r hrl.out W
        have hcv := conv_oneOf hD.out.1 hD.out.2 hrl.out (32 - r)
        have hval : bytesF d r = dwB K seed (plc p k) := by unfold dwB; rw [hpe.out, hr, hdb]
        rw [hval] at hcv
        have hss := Lib.hid (bLs_succ (fun i => dwB K seed (plc p i)) k)
        obtain ⟨bv, hbv⟩ : ∃ b, dwB K seed (plc p k) = b := ⟨_, rfl⟩
        rw [hbv] at hcv hss
        have hsl := Lib.hid (show (bLs (fun i => dwB K seed (plc p i)) k).length = k from bLs_len _ _)
        obtain ⟨s, hs⟩ : ∃ s, bLs (fun i => dwB K seed (plc p i)) k = s := ⟨_, rfl⟩
        rw [hs] at hss hsl ⊢
        have hadd : s.length + [UInt8.ofNat bv].length ≤ 9223372036854775807 := by rw [hsl.out]; simp; omega
        have hadd1 : s.length + 1 ≤ 9223372036854775807 := by rw [hsl.out]; omega
        have hnew := Lib.hid (show q = (plc p k) / 32 ∧ d = blkL K seed (plc p k) from ⟨hhv.out, by rw [hpe.out]; exact hdb⟩)
        clear hval hr hbv hs hdb hdv hhv
        go_upto_region 18 with (fail)
        go_wp2_with fail
        refine ⟨⟨k + 1, q, d, by go_num, by rw [hss.out], rfl, hkl, hD, Lib.hid (fun _ => by rw [Nat.add_sub_cancel]; exact hnew.out), hL⟩, ?_⟩
        simp [intOf]; omega
end Go.Proofs.YtdlmamnnamlleaaDoor
namespace Go.Proofs.YtdlmamnnamlleaaDoor
open Go.ChangeShapes Go.WideShapes Go.ChangeAt Go.RowKit
set_option maxHeartbeats 1000000
set_option maxRecDepth 100000

/-- Digits as an array of cells. -/
def digA (L : List Nat) : Array Value := (digV L).toArray
theorem digA_size (L : List Nat) : (digA L).size = L.length := by simp [digA, digV]
theorem digA_at {L : List Nat} {i : Nat} (hi : i < L.length) : (digA L)[i]? = some (.int .i64 (L[i] : Nat)) := by simp [digA, digV, hi]
theorem digA_set (L : List Nat) (i d : Nat) : (digA L).setIfInBounds i (.int .i64 (d : Int)) = digA (L.set i d) := by simp [digA, digV]
theorem digA_made (n : Nat) : madeCells #[Value.int .i64 0] n = digA (List.replicate n 0) := by
  apply Array.ext_getElem?
  intro i
  by_cases hi : i < n
  · simp [madeCells, digA, digV, hi, Nat.mod_one]
  · rw [Array.getElem?_eq_none (by rw [size_madeCells]; omega), Array.getElem?_eq_none (by rw [digA_size]; simp; omega)]
/-- A block that is a row of digits. -/
structure DRow (w : World) (g : Nat) (L : List Nat) : Prop where
  row : Row w g L.length
  eq : rowAt w g = digA L
theorem DRow.cell {w : World} {g : Nat} {L : List Nat} (h : DRow w g L) {i : Nat} (hi : i < L.length) : w.cell? ⟨g, i, none⟩ = some (.int .i64 (L[i] : Nat)) := by
  rw [h.row.cell, h.eq, digA_at hi]
theorem DRow.set {w : World} {g : Nat} {L : List Nat} (h : DRow w g L) (i d : Nat) : DRow (w.setCell ⟨g, i, none⟩ (.int .i64 (d : Int))) g (L.set i d) := by
  refine ⟨by rw [List.length_set]; exact row_setCell.2 h.row, ?_⟩
  rw [rowAt_setCell_same, h.eq, digA_set]
theorem DRow.drew {w : World} {g : Nat} {L : List Nat} (h : DRow w g L) : DRow w.drew g L := ⟨h.row, h.eq⟩
theorem DRow.new (w : World) (L : List Nat) (t : TypeId) : DRow (w.alloc (.cells (digA L) t)) w.heap.size L :=
  ⟨(row_new rfl).2 (digA_size L), rowAt_new rfl⟩
theorem DRow.below {w w' : World} {g B : Nat} {L : List Nat} (h : DRow w g L) (hb : Below B w w') (hg : g < B) : DRow w' g L := ⟨row_below h.row hb hg, (rowAt_below hb hg).trans h.eq⟩
theorem run_make_dig (n : Nat) (hn : n ≤ 1000000000) (w : World) : (Instr.makeSlice 89 (.int .i64 (n : Int)) (.int .i64 (n : Int))).run Tryd.prog w = .ok (.slice (some ⟨w.heap.size, 0, none⟩) n n) (w.alloc (.cells (digA (List.replicate n 0)) 3)) := by
  rw [← digA_made]
  exact run_make_row' (P := Tryd.prog) 89 3 (.int .i64 0) 8 Tryd.underlying89 (by kernel_rfl) rfl .i64 .i64 n (by omega) (by omega) w
theorem DRow.ds {w : World} {g : Nat} {L : List Nat} (h : DRow w g L) (hs : Sm L) (hm : L.length ≤ 9223372036854775807) : Ds w (some ⟨g, 0, none⟩) L L.length := by
  refine ⟨?_, hs, Nat.le_refl _, hm⟩
  obtain ⟨cs, t, hh, hl⟩ := h.row
  have e : cs = digA L := by have := h.eq; simpa [rowAt, hh] using this
  have := Rd.of_blk (B := w.heap.size) hh h.row.lt
  rw [e] at this; exact this

theorem val_set (L : List Nat) : ∀ (i d : Nat), i < L.length → val (L.set i d) + 65536 ^ i * (L[i]?.getD 0) = val L + 65536 ^ i * d := by
  induction L with
  | nil => intro i d h; simp at h
  | cons x L ih =>
    intro i d h
    cases i with
    | zero => simp [val]; omega
    | succ i =>
      have h1 := ih i d (by simpa using h)
      simp only [List.set_cons_succ, val, List.getElem?_cons_succ, Nat.pow_succ]
      have h2 : ∀ y, 65536 ^ i * 65536 * y = 65536 * (65536 ^ i * y) := fun y => by rw [Nat.mul_comm (65536 ^ i) 65536, Nat.mul_assoc]
      rw [h2, h2]
      omega
theorem val_zeros (n : Nat) : val (List.replicate n 0) = 0 := by
  induction n with
  | zero => rfl
  | succ n ih => rw [List.replicate_succ]; simp only [val]; omega
theorem sm_zeros (n : Nat) : Sm (List.replicate n 0) := fun d h => by have := (List.mem_replicate.1 h).2; omega

theorem pow_two_16 (n : Nat) : 65536 ^ (n / 16) * 2 ^ (n % 16) = 2 ^ n := by
  rw [show (65536 : Nat) = 2 ^ 16 from rfl, ← Nat.pow_mul, ← Nat.pow_add]; congr 1; omega
theorem val_take_succ' (l : List Nat) (i : Nat) : val (l.take (i + 1)) = val (l.take i) + 65536 ^ i * (l[i]?.getD 0) := by
  rcases Nat.lt_or_ge i l.length with h | h
  · rw [List.take_succ_eq_append_getElem h, val_snoc, List.getElem?_eq_getElem h, List.length_take, Nat.min_eq_left (by omega)]; rfl
  · rw [List.take_of_length_le h, List.take_of_length_le (by omega), List.getElem?_eq_none h]; simp
theorem twoTo_dg (n : Nat) : Dg ((List.replicate (n / 16 + 1) 0).set (n / 16) (2 ^ (n % 16))) (2 ^ n) := by
  have hlt : 2 ^ (n % 16) < 65536 := Nat.lt_of_lt_of_le (Nat.pow_lt_pow_right (by omega) (show n % 16 < 16 by omega)) (by decide)
  have hv := val_set (List.replicate (n / 16 + 1) 0) (n / 16) (2 ^ (n % 16)) (by simp)
  rw [val_zeros, pow_two_16] at hv
  have h0 : (List.replicate (n / 16 + 1) 0)[n / 16]?.getD 0 = 0 := by simp
  rw [h0] at hv
  refine ⟨⟨(sm_zeros _).set _ hlt, by omega⟩, ?_⟩
  rw [List.getLast?_eq_getElem?]
  simp

/-! Bits -/
def bitK (n s : Nat) : Nat → Nat := fun i => if i < s then n / 2 ^ i % 2 else 0
def BitsR (N n : Nat) (w : World) (e : Ending) (w' : World) : Prop := ∃ g, e = .returned (.slice (some ⟨g, 0, none⟩) n n) ∧ Row w' g n ∧ rowAt w' g = arrK .i64 n (fun i => N / 2 ^ i % 2) ∧ w.heap.size ≤ g ∧ Below w.heap.size w w'
theorem bit_step (N s : Nat) (p : Nat) : upd (bitK N s) s (N / 65536 ^ (s / 16) % 65536 / 2 ^ (s % 16) % 2) p = bitK N (s + 1) p := by
  have e : N / 65536 ^ (s / 16) % 65536 / 2 ^ (s % 16) % 2 = N / 2 ^ s % 2 := by
    have h1 : N / 2 ^ s = N / 65536 ^ (s / 16) / 2 ^ (s % 16) := by rw [Nat.div_div_eq_div_mul, pow_two_16]
    rw [h1]
    generalize N / 65536 ^ (s / 16) = M
    have h2 : 2 ^ (s % 16) * 2 ∣ 65536 := by
      rw [← Nat.pow_succ, show (65536 : Nat) = 2 ^ 16 from rfl]
      exact Nat.pow_dvd_pow 2 (by omega)
    rw [← Nat.mod_mul_right_div_self, ← Nat.mod_mul_right_div_self, Nat.mod_mod_of_dvd _ h2]
  unfold upd bitK
  by_cases h : p = s
  · subst h; rw [if_pos rfl, if_pos (by omega), e]
  · rw [if_neg h]
    by_cases h2 : p < s
    · rw [if_pos h2, if_pos (by omega)]
    · rw [if_neg h2, if_neg (by omega)]
theorem num_ofInt (a : Nat) (ha : a < 2 ^ 63) : (BitVec.ofInt 64 (a : Int)).toNat = a := by
  rw [BitVec.ofInt_natCast, BitVec.toNat_ofNat]; exact Nat.mod_eq_of_lt (by omega)
theorem num_and1 {a : Nat} (ha : a < 2 ^ 63) : bits .and .i64 (a : Int) 1 = ((a % 2 : Nat) : Int) := by
  have hx : a &&& 1 < 2 ^ 63 := Nat.and_lt_two_pow _ (by omega)
  show IntKind.i64.wrap ((BitVec.ofInt 64 (a : Int) &&& BitVec.ofInt 64 ((1 : Nat) : Int)).toNat : Int) = _
  rw [BitVec.toNat_and, num_ofInt a ha, num_ofInt 1 (by omega), IntKind.wrap_i64]
  rw [Nat.and_one_is_mod] at *
  omega

theorem ref_TwoTo (n : Nat) (w : World) (hn : n ≤ 1000000) :
    Calls Tryd.prog 41 #[.int .i64 n] w (RetN (2 ^ n) w) := by
  have hmk := run_make_dig (n / 16 + 1) (by omega)
  have hR := DRow.new w (List.replicate (n / 16 + 1) 0) 3
  have hL : ∀ L, Below w.heap.size w (w.alloc (.cells (digA L) 3)) := fun L => by go_grown
  obtain ⟨q, hq⟩ : ∃ q, q = n / 16 := ⟨_, rfl⟩
  obtain ⟨r, hr⟩ : ∃ r, r = n % 16 := ⟨_, rfl⟩
  have hqi : (n : Int) / 16 = q := by omega
  have hri : (n : Int) % 16 = r := by omega
  have hdg := twoTo_dg n
  rw [← hq, ← hr] at hdg
  rw [← hq] at hmk hR
  have hHdg := Lib.hid hdg
  have hr16 : r < 16 := by omega
  have hqn : q ≤ n := by omega
  have h2 : (2 : Int) ^ r < 65536 := by
    have : 2 ^ r < 2 ^ 16 := Nat.pow_lt_pow_right (by omega) hr16
    have h3 : ((2 ^ r : Nat) : Int) < 65536 := by omega
    simpa using h3
  have h2' : (0 : Int) < 2 ^ r := Int.pow_pos (by omega)
  have hc := hR.cell (i := q) (by simp)
  have hf := hR.row.frozen q
  rw [List.getElem_replicate] at hc
  have hq0 : (0 : Int) ≤ q := by omega
  have hq1 : (q : Int) < (q : Int) + 1 := by omega
  push_cast at hmk
  clear hq hr hdg
  go_enter Tryd.func41, Tryd.ntmps41
  go_wp2
  go_ret
  rw [show (2 : Int) ^ r = ((2 ^ r : Nat) : Int) by simp, digA_set]
  have hN := DRow.new w ((List.replicate (q + 1) 0).set q (2 ^ r)) 3
  have hl : ((List.replicate (q + 1) 0).set q (2 ^ r)).length = q + 1 := by simp
  have hDs := hN.ds hHdg.out.sm (by omega)
  rw [hl] at hDs
  exact ⟨.slice (some ⟨w.heap.size, 0, none⟩) (q + 1) (q + 1), rfl, ⟨some ⟨w.heap.size, 0, none⟩, _, q + 1, by rw [hl], hDs, hHdg.out⟩, hL _⟩

/-! Times -/
theorem times_step {L : List Nat} {P cy x V m : Nat} {i : Nat} (hi : i < L.length) (hP : P = 65536 ^ i) (hx : x = cy + (L[i]?.getD 0 + m)) (hv : val L + P * cy = V) :
    val (L.set i (x % 65536)) + P * 65536 * (x / 65536) = V + P * m := by
  have h1 := val_set L i (x % 65536) hi
  rw [← hP] at h1
  have h2 : P * (x % 65536) + P * 65536 * (x / 65536) = P * x := by rw [Nat.mul_assoc, ← Nat.mul_add, Nat.mod_add_div]
  have h3 : P * x = P * cy + P * (L[i]?.getD 0) + P * m := by rw [hx, Nat.mul_add, Nat.mul_add]; omega
  omega
theorem times_in {k : List Nat} {V i j a b : Nat} (hb : k[j]?.getD 0 = b) : V + 65536 ^ i * a * val (k.take j) + 65536 ^ (i + j) * (a * b) = V + 65536 ^ i * a * val (k.take (j + 1)) := by
  rw [val_take_succ', hb, Nat.pow_add, Nat.mul_add, Nat.add_assoc]
  congr 2
  simp only [Nat.mul_assoc]
  congr 1
  rw [← Nat.mul_assoc, Nat.mul_comm (65536 ^ j) a, Nat.mul_assoc]
theorem zeros_set {L : List Nat} {p q d n : Nat} (h : ∀ j, n ≤ j → L[j]?.getD 0 = 0) (hp : p < n) (hq : n ≤ q) : (L.set p d)[q]?.getD 0 = 0 := by
  rw [List.getElem?_set_ne (by omega)]; exact h q hq
theorem times_round {l k L' : List Nat} {i cy : Nat} (hi : i + k.length < L'.length) (hz : L'[i + k.length]?.getD 0 = 0) (hv : val L' + 65536 ^ (i + k.length) * cy = val (l.take i) * val k + 65536 ^ i * (l[i]?.getD 0) * val k) :
    val (L'.set (i + k.length) cy) = val (l.take (i + 1)) * val k := by
  have h1 := val_set L' (i + k.length) cy hi
  rw [hz] at h1
  rw [val_take_succ', Nat.add_mul]
  omega

theorem ref_Times (A : Option Addr) (l : List Nat) (c : Nat) (B : Option Addr) (k : List Nat) (d : Nat) (w : World) (ha : Ds w A l c) (hb : Ds w B k d) (hl : l.length ≤ 1000000) (hk : k.length ≤ 1000000) :
    Calls Tryd.prog 43 #[.slice A l.length c, .slice B k.length d] w (RetN (val l * val k) w) := by
  have hmk := run_make_dig (l.length + k.length) (by omega)
  push_cast at hmk
  have hR := DRow.new w (List.replicate (l.length + k.length) 0) 3
  have hL : Below w.heap.size w (w.alloc (.cells (digA (List.replicate (l.length + k.length) 0)) 3)) := by go_grown
  go_enter Tryd.func43, Tryd.ntmps43
  go_wp2
  generalize w.alloc (.cells (digA (List.replicate (l.length + k.length) 0)) 3) = W0 at *
  go_loopw [17] (fun i wr => ∃ (i' : Nat) (L : List Nat), i = .int .i64 i' ∧ i' ≤ l.length ∧ L.length ≤ l.length + k.length ∧ l.length + k.length ≤ L.length ∧ DRow wr w.heap.size L ∧ Below w.heap.size w wr ∧
    Hid (Sm L ∧ val L = val (l.take i') * val k ∧ ∀ j, i' + k.length ≤ j → L[j]?.getD 0 = 0)) (fun i _ => l.length - (intOf i).toNat)
  case atStart => exact ⟨0, _, rfl, by omega, by simp, by simp, hR, hL, sm_zeros _, by rw [val_zeros]; simp [val], fun j _ => by simp [List.getElem?_replicate]; split <;> rfl⟩
  case round =>
    obtain ⟨i, L, rfl, hi, hL1, hL2, hR, hL, hH⟩ := hrel
    by_cases hlt : i < l.length
    · go_wp2
      obtain ⟨wo, rfl⟩ : ∃ wo : World, wo = wr := ⟨_, rfl⟩
      go_loopw [7, 22] (fun y j wr => ∃ (j' cy : Nat) (L : List Nat), j = .int .i64 j' ∧ j' ≤ k.length ∧ y = .int .i64 cy ∧ cy < 65536 ∧ L.length ≤ l.length + k.length ∧ l.length + k.length ≤ L.length ∧ DRow wr w.heap.size L ∧ Below w.heap.size w wr ∧
        Hid (Sm L ∧ val L + 65536 ^ (i + j') * cy = val (l.take i) * val k + 65536 ^ i * (l[i]?.getD 0) * val (k.take j') ∧ ∀ q, i + k.length ≤ q → L[q]?.getD 0 = 0)) (fun _ j _ => k.length - (intOf j).toNat)
      case atStart => exact ⟨0, 0, L, rfl, by omega, rfl, by omega, hL1, hL2, hR, hL, hH.out.1, by rw [hH.out.2.1]; simp [val], hH.out.2.2⟩
      case round =>
        clear hH hR hL hL1 hL2 L
        obtain ⟨j, cy, L, rfl, hj, rfl, hcy, hL1, hL2, hR, hL, hH⟩ := hrel
        have hf : ∀ q, wr.frozen? ⟨w.heap.size, q, none⟩ = false := fun q => hR.row.frozen q
        by_cases hjk : j < k.length
        · obtain ⟨ad, rfl, hbl, hca⟩ := digV_at (ha.below hL (Nat.le_refl _)).rd hlt
          obtain ⟨bd, rfl, hbl2, hcb⟩ := digV_at (hb.below hL (Nat.le_refl _)).rd hjk
          have hcx := hR.cell (i := i + j) (by omega)
          have hfx := hf (i + j)
          have ha1 := ha.sm l[i] (List.getElem_mem _)
          have hb1 := hb.sm k[j] (List.getElem_mem _)
          have hx1 := hH.out.1 L[i + j] (List.getElem_mem _)
          obtain ⟨m, hm⟩ : ∃ m, m = l[i] * k[j] := ⟨_, rfl⟩
          have hm1 : m ≤ 65535 * 65535 := hm ▸ Nat.mul_le_mul (by omega) (by omega)
          have hmi : ((l[i] : Nat) : Int) * ((k[j] : Nat) : Int) = (m : Int) := by rw [hm]; simp
          have hst := times_step (i := i + j) (x := cy + (L[i + j] + m)) (m := m) (by omega) rfl (by rw [List.getElem?_eq_getElem (by omega)]; rfl) hH.out.2.1
          rw [show l[i]?.getD 0 = l[i] by rw [List.getElem?_eq_getElem hlt]; rfl, hm, times_in (by rw [List.getElem?_eq_getElem hjk]; rfl), ← hm] at hst
          have hst2 : Hid (Sm (L.set (i + j) ((cy + (L[i + j] + m)) % 65536)) ∧ val (L.set (i + j) ((cy + (L[i + j] + m)) % 65536)) + 65536 ^ (i + (j + 1)) * ((cy + (L[i + j] + m)) / 65536) = val (l.take i) * val k + 65536 ^ i * (l[i]?.getD 0) * val (k.take (j + 1)) ∧ ∀ q, i + k.length ≤ q → (L.set (i + j) ((cy + (L[i + j] + m)) % 65536))[q]?.getD 0 = 0) :=
            ⟨hH.out.1.set _ (Nat.mod_lt _ (by omega)), by rw [show i + (j + 1) = (i + j) + 1 by omega, Nat.pow_succ, hst, List.getElem?_eq_getElem hlt]; rfl, fun q hq => zeros_set hH.out.2.2 (by omega) hq⟩
          have hw1 : IntKind.i64.wrap ((i : Int) + j) = (i : Int) + j := by rw [IntKind.wrap_i64]; omega
          have hw2 : IntKind.i64.wrap (m : Int) = m := by rw [IntKind.wrap_i64]; omega
          have hs0 : (0 : Int) ≤ (i : Int) + j := by omega
          have hs1 : ((i : Int) + j).toNat = i + j := by omega
          have hs2 : (i : Int) + j < (l.length : Int) + k.length := by omega
          clear hst hm hf hH
          generalize L[i + j] = x at *
          generalize l[i] = a at *
          generalize k[j] = b at *
          have hw3 : IntKind.i64.wrap ((x : Int) + m) = (x : Int) + m := by rw [IntKind.wrap_i64]; omega
          have hw4 : IntKind.i64.wrap ((cy : Int) + ((x : Int) + m)) = (cy : Int) + ((x : Int) + m) := by rw [IntKind.wrap_i64]; omega
          have hR2 := hR.set (i + j) ((cy + (x + m)) % 65536)
          have hHR := Lib.hid hR2
          clear hR2
          go_wp2
          go_region
          go_wp2
          go_round
          case rel => exact ⟨j + 1, (cy + (x + m)) / 65536, L.set (i + j) ((cy + (x + m)) % 65536), by go_num, by omega, by go_num, by omega, by simp; omega, by simp; omega, hHR.out.drew, (hL.setCell (Nat.le_refl _) _).drew, hst2⟩
          case measure => simp [intOf]; omega
        · obtain rfl : j = k.length := by omega
          have hz0 := hH.out.2.2 (i + k.length) (by omega)
          have hcx := hR.cell (i := i + k.length) (by omega)
          have hz : L[i + k.length] = 0 := by rw [List.getElem?_eq_getElem (by omega)] at hz0; exact hz0
          rw [hz] at hcx
          have hfx := hf (i + k.length)
          clear hf hz hz0
          go_wp2
          go_round
          case rel =>
            refine ⟨i + 1, L.set (i + k.length) cy, by go_num, by omega, by simp; omega, by simp; omega, hR.set _ _, hL.setCell (Nat.le_refl _) _, hH.out.1.set _ hcy, ?_, fun q hq => ?_⟩
            · have h1 := hH.out.2.1
              rw [List.take_length] at h1
              exact times_round (by omega) (hH.out.2.2 _ (by omega)) h1
            · rw [List.getElem?_set_ne (by omega)]; exact hH.out.2.2 q (by omega)
          case measure => simp [intOf]; omega
    · obtain rfl : i = l.length := by omega
      have hn : L.length = l.length + k.length := by omega
      have hDs := hR.ds hH.out.1 (by omega)
      rw [hn] at hDs
      have hcon := ref_trim _ L _ wr hDs
      rw [hn] at hcon
      have hHcon := Lib.hid hcon
      clear hcon
      go_wp2_with fail
      refine hHcon.out.mono ?_
      rintro e w' ⟨q, hq, rfl, hg, rfl⟩
      go_wp2
      go_ret
      have hv := hH.out.2.1
      rw [List.take_length] at hv
      exact ⟨_, rfl, hv ▸ isN_trim hDs hq hg, hL⟩
end Go.Proofs.YtdlmamnnamlleaaDoor
namespace Go.Proofs.YtdlmamnnamlleaaDoor
open Go.ChangeShapes Go.WideShapes Go.ChangeAt Go.RowKit

/-- No number of ours is as great. -/
def bigK : Nat := 10000
def big : Nat := 65536 ^ bigK
theorem lt_big {n k : Nat} (h : n < 2 ^ k) (hk : k ≤ 160000) : n < big := by
  refine Nat.lt_of_lt_of_le h ?_
  unfold big
  rw [show (65536 : Nat) = 2 ^ 16 from rfl, ← Nat.pow_mul]
  exact Nat.pow_le_pow_right (by omega) (by unfold bigK; omega)

theorem wide_big {a b m : Nat} (ha : a < 2 ^ m) (hb : b < 2 ^ m) (h : m + m ≤ 160000) : a + b * 2 ^ m < big := by
  refine lt_big (k := m + m) ?_ h
  have h1 : (b + 1) * 2 ^ m ≤ 2 ^ m * 2 ^ m := Nat.mul_le_mul_right _ hb
  rw [Nat.add_mul, Nat.one_mul] at h1
  rw [Nat.pow_add]
  omega
theorem mul_big {a b m n : Nat} (ha : a < 2 ^ m) (hb : b < 2 ^ n) (h : m + n ≤ 160000) : a * b < big :=
  lt_big (k := m + n) (by rw [Nat.pow_add]; exact Nat.mul_lt_mul'' ha hb) h
theorem add_big {a b k : Nat} (ha : a < 2 ^ k) (hb : b < 2 ^ k) (h : k + 1 ≤ 160000) : a + b < big :=
  lt_big (k := k + 1) (by rw [Nat.pow_succ]; omega) h

/-- A slice of digits of n, whatever stands at its end. -/
def IsV (w : World) (v : Value) (n : Nat) : Prop := ∃ A l c, v = .slice A l.length c ∧ Ds w A l c ∧ val l = n ∧ l.length ≤ 1000000

section
variable {w w' : World} {v : Value} {n : Nat}
theorem IsN.toV (h : IsN w v n) (hn : n < big) : IsV w v n := by
  obtain ⟨A, l, c, e, hD, hG⟩ := h
  exact ⟨A, l, c, e, hD, hG.val, Nat.le_trans (hG.len hn) (by unfold bigK; omega)⟩
theorem IsV.step (hb : Below w.heap.size w w') (h : IsV w v n) : IsV w' v n := by
  obtain ⟨A, l, c, e, hD, h1, h2⟩ := h
  exact ⟨A, l, c, e, hD.below hb (Nat.le_refl _), h1, h2⟩
theorem IsN.step (hb : Below w.heap.size w w') (h : IsN w v n) : IsN w' v n := by
  obtain ⟨A, l, c, e, hD, h1⟩ := h
  exact ⟨A, l, c, e, hD.below hb (Nat.le_refl _), h1⟩
theorem IsV.alloc (h : IsV w v n) (o : Obj) : IsV (w.alloc o) v n := h.step (below_alloc w o)
theorem IsN.alloc (h : IsN w v n) (o : Obj) : IsN (w.alloc o) v n := h.step (below_alloc w o)
theorem IsV.drew (h : IsV w v n) : IsV w.drew v n := h.step (Below.refl _ _).drew
theorem IsN.drew (h : IsN w v n) : IsN w.drew v n := h.step (Below.refl _ _).drew
theorem IsN.nil (w : World) : IsN w (.slice none 0 0) 0 := ⟨none, [], 0, rfl, ⟨Rd.nil, Sm.nil, by simp, by omega⟩, Dg.nil⟩
/-- '[]int{d}'. -/
theorem IsV.lit (w : World) (t : TypeId) {d : Nat} (hd : d < 65536) : IsV (w.alloc (.cells #[.int .i64 (d : Int)] t)) (.slice (some ⟨w.heap.size, 0, none⟩) 1 1) d :=
  ⟨some ⟨w.heap.size, 0, none⟩, [d], 1, rfl, ⟨Rd.of_blk (cs := #[.int .i64 (d : Int)]) (push_new _ _) (by simp), Sm.one hd, by simp, by omega⟩, val_one d, by simp⟩
theorem IsV.lit256 (w : World) (t : TypeId) : IsV (w.alloc (.cells #[.int .i64 256] t)) (.slice (some ⟨w.heap.size, 0, none⟩) 1 1) 256 := IsV.lit w t (d := 256) (by omega)
theorem IsV.lit' (w : World) (t : TypeId) {d g : Nat} (hg : g = w.heap.size) (hd : d < 65536) : IsV (w.alloc (.cells #[.int .i64 (d : Int)] t)) (.slice (some ⟨g, 0, none⟩) 1 1) d := by subst hg; exact IsV.lit w t hd
theorem IsV.lit256' (w : World) (t : TypeId) {g : Nat} (hg : g = w.heap.size) : IsV (w.alloc (.cells #[.int .i64 256] t)) (.slice (some ⟨g, 0, none⟩) 1 1) 256 := by subst hg; exact IsV.lit256 w t
theorem IsN.form (h : IsN w v n) : ∃ A m c, v = .slice A m c ∧ m ≤ c ∧ c ≤ 9223372036854775807 ∧ (m = 0 ↔ n = 0) := by
  obtain ⟨A, l, c, rfl, hD, hG⟩ := h
  refine ⟨A, l.length, c, rfl, hD.le, hD.mx, fun h0 => ?_, fun h0 => ?_⟩
  · rw [← hG.val, List.eq_nil_of_length_eq_zero h0]; rfl
  · subst h0; rw [hG.zero]; rfl

theorem plusN {u v : Value} {m n : Nat} (w : World) (hu : IsV w u m) (hv : IsV w v n) : Calls Tryd.prog 42 #[u, v] w (RetN (m + n) w) := by
  obtain ⟨A, l, c, rfl, hD, rfl, hl⟩ := hu
  obtain ⟨B, k, d, rfl, hE, rfl, hk⟩ := hv
  exact ref_Plus A l c B k d w hD hE hl hk
theorem timesN {u v : Value} {m n : Nat} (w : World) (hu : IsV w u m) (hv : IsV w v n) : Calls Tryd.prog 43 #[u, v] w (RetN (m * n) w) := by
  obtain ⟨A, l, c, rfl, hD, rfl, hl⟩ := hu
  obtain ⟨B, k, d, rfl, hE, rfl, hk⟩ := hv
  exact ref_Times A l c B k d w hD hE hl hk
theorem toNumN {u : Value} {m : Nat} (w : World) (hu : IsV w u m) : Calls Tryd.prog 45 #[u] w fun e w' => e = .returned (numV m) ∧ Below w.heap.size w w' := by
  obtain ⟨A, l, c, rfl, hD, rfl, hl⟩ := hu
  exact ref_ToNum A l c w hD
end
end Go.Proofs.YtdlmamnnamlleaaDoor
namespace Go.Proofs.YtdlmamnnamlleaaDoor
open Go.ChangeShapes Go.WideShapes Go.ChangeAt Go.RowKit
set_option maxHeartbeats 2000000
set_option maxRecDepth 100000
def SRel.bV (m : Nat) : SRel := ⟨fun v w => IsV w v m, fun _ _ _ hb h => h.step hb⟩
def SRel.bN (m : Nat) : SRel := ⟨fun v w => IsN w v m, fun _ _ _ hb h => h.step hb⟩
/-- Bytes from i on, the least first. -/
def hvB (f : Nat → Nat) (i : Nat) : Nat → Nat
  | 0 => 0
  | k + 1 => f i + 256 * hvB f (i + 1) k
theorem hvB_bval (f : Nat → Nat) : ∀ k i, bval f i + 256 ^ i * hvB f i k = bval f (i + k)
  | 0, i => by simp [hvB]
  | k + 1, i => by
    have ih := hvB_bval f k (i + 1)
    rw [show i + (k + 1) = i + 1 + k by omega, ← ih]
    show bval f i + 256 ^ i * (f i + 256 * hvB f (i + 1) k) = bval f i + 256 ^ i * f i + 256 ^ (i + 1) * hvB f (i + 1) k
    rw [Nat.pow_succ]
    generalize hvB f (i + 1) k = x
    grind
theorem hvB_zero (f : Nat → Nat) (n : Nat) : hvB f 0 n = bval f n := by
  have h := hvB_bval f n 0
  rw [Nat.zero_add, Nat.pow_zero, Nat.one_mul] at h
  rw [← h]
  simp [bval]
theorem hvB_lt {f : Nat → Nat} : ∀ k i, (∀ j < i + k, f j < 256) → hvB f i k < 2 ^ (8 * k)
  | 0, i, _ => by simp [hvB]
  | k + 1, i, h => by
    have h1 := hvB_lt k (i + 1) (fun j hj => h j (by omega))
    have h2 := h i (by omega)
    show f i + 256 * hvB f (i + 1) k < 2 ^ (8 * (k + 1))
    rw [show 8 * (k + 1) = 8 * k + 8 by omega, Nat.pow_add]
    omega
end Go.Proofs.YtdlmamnnamlleaaDoor
namespace Go.Proofs.YtdlmamnnamlleaaDoor
open Go.ChangeShapes Go.WideShapes Go.ChangeAt Go.RowKit
set_option maxHeartbeats 1000000
set_option maxRecDepth 100000

/-- A number whose digits lie at block B or behind. -/
def IsNF (w : World) (B : Nat) (v : Value) (n : Nat) : Prop := ∃ A l c, v = .slice A l.length c ∧ Ds w A l c ∧ Dg l n ∧ ∀ ad, A = some ad → B ≤ ad.block
def RetNF (n : Nat) (w : World) (e : Ending) (w' : World) : Prop := ∃ v, e = .returned v ∧ IsNF w' w.heap.size v n ∧ Below w.heap.size w w'
theorem IsNF.toN {w : World} {B : Nat} {v : Value} {n : Nat} (h : IsNF w B v n) : IsN w v n := by
  obtain ⟨A, l, c, e, h1, h2, -⟩ := h
  exact ⟨A, l, c, e, h1, h2⟩
theorem IsNF.mono {w : World} {B B' : Nat} {v : Value} {n : Nat} (h : IsNF w B v n) (hB : B' ≤ B) : IsNF w B' v n := by
  obtain ⟨A, l, c, e, h1, h2, h3⟩ := h
  exact ⟨A, l, c, e, h1, h2, fun ad ha => Nat.le_trans hB (h3 ad ha)⟩
theorem IsNF.step {w w' : World} {B : Nat} {v : Value} {n : Nat} (hb : Below w.heap.size w w') (h : IsNF w B v n) : IsNF w' B v n := by
  obtain ⟨A, l, c, e, h1, h2, h3⟩ := h
  exact ⟨A, l, c, e, h1.below hb (Nat.le_refl _), h2, h3⟩
theorem IsNF.setCell {w : World} {B : Nat} {v : Value} {n : Nat} (h : IsNF w B v n) {a : Addr} (ha : a.block < B) (u : Value) : IsNF (w.setCell a u) B v n := by
  obtain ⟨A, l, c, e, h1, h2, h3⟩ := h
  refine ⟨A, l, c, e, ⟨fun j x hx => ?_, h1.sm, h1.le, h1.mx⟩, h2, h3⟩
  obtain ⟨ad, e1, hl, hc⟩ := h1.rd j x hx
  refine ⟨ad, e1, by simpa using hl, ?_⟩
  have hne : (ad.add j).block ≠ a.block := by rw [addr_block]; have := h3 ad e1; omega
  rw [← hc]
  exact World.cell?_of_block (w := w) (Below.heap_setCell w a u _ hne)
theorem isNF_trim {w0 W : World} {B : Nat} {e : TypeId} {A : Option Addr} {n c k : Nat} {l : List Nat} (h : Own w0 B e (.slice A n c) (digV l) W) (hs : Sm l) (hk : k ≤ l.length) (hg : Dg (l.take k) (val l)) : IsNF W B (.slice A k c) (val l) := by
  obtain ⟨hn, hD⟩ := ds_own h hs
  obtain ⟨A', l', c', e1, h1, h2⟩ := isN_trim hD hk hg
  refine ⟨A', l', c', e1, h1, h2, fun ad ha => ?_⟩
  injection e1 with e1
  subst e1
  exact (h.lt (g := ad.block) (by rw [ha]; rfl)).1

theorem minus_step {l k L : List Nat} {i bo x bo' : Nat} (hL : L.length = i) (hx : bo + x + k[i]?.getD 0 = l[i]?.getD 0 + 65536 * bo') (hv : val L + val (k.take i) = val (l.take i) + 65536 ^ i * bo) :
    val (L ++ [x]) + val (k.take (i + 1)) = val (l.take (i + 1)) + 65536 ^ (i + 1) * bo' := by
  rw [val_snoc, hL, val_take_succ', val_take_succ', Nat.pow_succ, Nat.mul_assoc]
  have h : 65536 ^ i * (bo + x + k[i]?.getD 0) = 65536 ^ i * (l[i]?.getD 0 + 65536 * bo') := by rw [hx]
  rw [Nat.mul_add, Nat.mul_add, Nat.mul_add] at h
  omega
theorem minus_end {l k L : List Nat} {bo : Nat} (hl : Sm l) (hk : Sm k) (hle : val k ≤ val l) (hv : val L + val (k.take l.length) = val l + 65536 ^ l.length * bo) (hL : val L < 65536 ^ l.length) : val L = val l - val k := by
  have h1 := val_lt hl
  have h2 := val_take hk l.length
  rw [Nat.mod_eq_of_lt (by omega)] at h2
  rw [h2] at hv
  rcases Nat.eq_zero_or_pos bo with rfl | h
  · omega
  · have : 65536 ^ l.length * 1 ≤ 65536 ^ l.length * bo := Nat.mul_le_mul_left _ h
    omega

theorem ref_Minus (A : Option Addr) (l : List Nat) (c : Nat) (B : Option Addr) (k : List Nat) (d : Nat) (w : World) (ha : Ds w A l c) (hb : Ds w B k d) (hl : l.length ≤ 1000000) (hle : val k ≤ val l) :
    Calls Tryd.prog 84 #[.slice A l.length c, .slice B k.length d] w (RetNF (val l - val k) w) := by
  go_enter Tryd.func84, Tryd.ntmps84
  go_wp2
  go_loopw [5, 6, 11] (fun v y i wr => ∃ (i' : Nat) (L : List Nat) (bo : Nat), i = .int .i64 i' ∧ y = .int .i64 bo ∧ bo ≤ 1 ∧ Own w w.heap.size 3 v (digV L) wr ∧ L.length ≤ i' ∧ i' ≤ L.length ∧ i' ≤ l.length ∧
    Hid (Sm L ∧ val L + val (k.take i') = val (l.take i') + 65536 ^ i' * bo)) (fun _ _ i _ => l.length - (intOf i).toNat)
  case atStart => exact ⟨0, [], 0, rfl, rfl, by omega, Own.start _ _, by simp, by simp, by omega, Sm.nil, by simp [val]⟩
  case round =>
    obtain ⟨i, L, bo, rfl, rfl, hbo, hO, hl1, hl2, him, hH⟩ := hrel
    rename_i u5
    have hDa := ha.below hO.bel (Nat.le_refl _)
    have hDb := hb.below hO.bel (Nat.le_refl _)
    by_cases hlt : i < l.length
    · have hdb := digZ_lt hb.sm (i : Int)
      obtain ⟨ad, rfl, hbl, hc⟩ := digV_at hDa.rd hlt
      have hla := ha.sm l[i] (List.getElem_mem _)
      have hdz := digZ_nat k i
      have hst := fun x bo' hx => minus_step (x := x) (bo' := bo') (l := l) (k := k) (by omega) hx hH.out.2
      rw [← hdz, List.getElem?_eq_getElem hlt] at hst
      have hHst := Lib.hid hst
      have hcon := Lib.hid (fun W (h : Ds W B k d) => ref_digit B k d (i : Int) W h)
      have hHD := Lib.hid hDb
      clear hst hdz hDb
      generalize digZ k i = y at *
      generalize l[i] = x at *
      have hw1 : IntKind.i64.wrap ((x : Int) - y) = (x : Int) - y := by rw [IntKind.wrap_i64]; omega
      obtain ⟨o, ho⟩ : ∃ o : Int, (x : Int) - y - bo = o := ⟨_, rfl⟩
      have hw2 : IntKind.i64.wrap ((x : Int) - y - bo) = o := by rw [IntKind.wrap_i64]; omega
      have ho1 : -65536 ≤ o := by omega
      have ho2 : o < 65536 := by omega
      have hlL : L.length < 1000000 := by omega
      have hOd := hO.drew
      obtain ⟨X, bo', hX, hX2, hXl, hcase⟩ : ∃ X bo' : Nat, (bo + X + y = x + 65536 * bo') ∧ bo' ≤ 1 ∧ X < 65536 ∧ ((o < 0 ∧ o + 65536 = X ∧ bo' = 1) ∨ (¬ o < 0 ∧ o = X ∧ bo' = 0)) := by
        by_cases h : o < 0
        · exact ⟨(o + 65536).toNat, 1, by omega, by omega, by omega, .inl ⟨h, by omega, rfl⟩⟩
        · exact ⟨o.toNat, 0, by omega, by omega, by omega, .inr ⟨h, by omega, rfl⟩⟩
      have hfin := Lib.hid (hHst.out X bo' hX)
      have hHo := Lib.hid ho
      clear ho hHst hX
      go_wp2
      go_upto_region 6 with (fail)
      go_cut [8] (fun v8 wx => v8 = .int .i64 o ∧ Own w w.heap.size 3 u5 (digV L) wx)
      case first =>
        have hHD := Lib.hid (hHD.out.below (Below.refl wr.heap.size wr).drew (Nat.le_refl _))
        go_region_law (first
          | (go_simp; go_at_call 66; (refine Calls.mono (hcon.out _ hHD.out) ?_); rintro e w' ⟨rfl, rfl⟩))
        all_goals go_wp2_with fail
        all_goals go_meet
        all_goals exact ⟨rfl, hOd⟩
      case rest =>
        clear hOd
        obtain ⟨rfl, hOd⟩ := hcut
        clear hw1 hw2 hc
        rcases hcase with ⟨h0, h1, rfl⟩ | ⟨h0, h1, rfl⟩
        · have hw3 : IntKind.i64.wrap (o + 65536) = (X : Int) := by rw [IntKind.wrap_i64]; omega
          go_wp2_with (at_builtin; refine wpList_own1 (o := ⟨some 31, _, _, _, _, _⟩) rfl (.tmp 28) (.tmp 30) 89 rfl SI rfl hOd (.int .i64 (X : Int)) rfl rfl (by rw [digV_len]; unfold maxLen; omega) (by rw [digV_len]; omega) ?_; intro v1 w1 hO1 hg1 hat1; clear hg1 hat1)
          go_roundw
          case rel => exact ⟨i + 1, L ++ [X], 1, by go_num, rfl, by omega, by rw [digV_snoc]; exact hO1, by simp; omega, by simp; omega, by omega, hH.out.1.append (Sm.one hXl), hfin.out⟩
          case measure => simp [intOf]; omega
        · subst h1
          clear h0 ho1 ho2
          go_wp2_with (at_builtin; refine wpList_own1 (o := ⟨some 31, _, _, _, _, _⟩) rfl (.tmp 28) (.tmp 30) 89 rfl SI rfl hOd (.int .i64 (X : Int)) rfl rfl (by rw [digV_len]; unfold maxLen; omega) (by rw [digV_len]; omega) ?_; intro v1 w1 hO1 hg1 hat1; clear hg1 hat1)
          go_roundw
          case rel => exact ⟨i + 1, L ++ [X], 0, by go_num, rfl, by omega, by rw [digV_snoc]; exact hO1, by simp; omega, by simp; omega, by omega, hH.out.1.append (Sm.one hXl), hfin.out⟩
          case measure => simp [intOf]; omega
    · obtain rfl : i = l.length := by omega
      obtain ⟨A', c', rfl, -, -⟩ := hO.form
      obtain ⟨hn, hD⟩ := ds_own hO hH.out.1
      have hbl := hO.bel
      rw [hn]
      rw [hn] at hO
      have hHO := Lib.hid hO
      have hll := Lib.hid (show L.length = l.length by omega)
      clear hO
      go_wp2_with (go_at_call 67; refine (ref_trim A' L c' _ hD).mono ?_; rintro e w' ⟨q, hq, rfl, hg, rfl⟩)
      go_ret
      have hv := hH.out.2
      rw [List.take_length] at hv
      have hLt := val_lt hH.out.1
      rw [hll.out] at hLt
      have hr := minus_end ha.sm hb.sm hle hv hLt
      exact ⟨_, rfl, hr ▸ isNF_trim hHO.out hH.out.1 hq hg, hbl⟩

theorem order_digit {a b i : Nat} (hlt : a / 65536 ^ (i + 1) = b / 65536 ^ (i + 1)) {x y : Nat} (hx : x = a / 65536 ^ i % 65536) (hy : y = b / 65536 ^ i % 65536) :
    (x < y → order a b = -1) ∧ (y < x → order a b = 1) ∧ (x = y → a / 65536 ^ i = b / 65536 ^ i) := by
  have h := order_step hlt
  rw [← hx, ← hy] at h
  exact ⟨fun e => if_pos (h.1 e), fun e => by unfold order; rw [if_neg (by have := h.2.1 e; omega), if_pos (h.2.1 e)], h.2.2⟩
theorem ref_Order (A : Option Addr) (l : List Nat) (c : Nat) (B : Option Addr) (k : List Nat) (d : Nat) (w : World) (ha : Ds w A l c) (hb : Ds w B k d) (hl : l.length ≤ 1000000) (hk : k.length ≤ 1000000) :
    Calls Tryd.prog 40 #[.slice A l.length c, .slice B k.length d] w fun e w' => e = .returned (.int .i64 (order (val l) (val k))) ∧ w = w' := by
  go_enter Tryd.func40, Tryd.ntmps40
  go_wp2
  all_goals
    go_loop [5] (fun i => ∃ s : Nat, i = .int .i64 ((s : Int) - 1) ∧ s ≤ 1000000 ∧ Hid (val l / 65536 ^ s = val k / 65536 ^ s)) (fun i => (intOf i + 1).toNat)
    case atStart =>
      have h1 := val_lt ha.sm
      have h2 := val_lt hb.sm
      first
      | exact ⟨k.length, rfl, hk, Lib.hid (by rw [Nat.div_eq_of_lt (Nat.lt_of_lt_of_le h1 (Nat.pow_le_pow_right (by omega) (by omega))), Nat.div_eq_of_lt h2])⟩
      | exact ⟨l.length, rfl, hl, Lib.hid (by rw [Nat.div_eq_of_lt h1, Nat.div_eq_of_lt (Nat.lt_of_lt_of_le h2 (Nat.pow_le_pow_right (by omega) (by omega)))])⟩
    case round =>
      obtain ⟨s, rfl, hs, hH⟩ := hrel
      rcases Nat.eq_zero_or_pos s with rfl | hs0
      · have e : val l = val k := by have := hH.out; simpa using this
        have hq := Lib.hid (show order (val l) (val k) = 0 by rw [e]; unfold order; rw [if_neg (by omega), if_neg (by omega)])
        clear e hH
        go_wp2
        go_ret
        exact ⟨by rw [hq.out]; rfl, rfl⟩
      · obtain ⟨i, rfl⟩ : ∃ i, s = i + 1 := ⟨s - 1, by omega⟩
        rw [show (((i + 1 : Nat) : Int) - 1) = (i : Int) by omega]
        have ho := order_digit hH.out (x := digZ l i) (y := digZ k i) (by rw [digZ_nat, Dv.at_ (Dv.mk' ha.sm)]) (by rw [digZ_nat, Dv.at_ (Dv.mk' hb.sm)])
        have hHo := Lib.hid ho
        have hc1 := Lib.hid (ref_digit A l c (i : Int) w ha)
        have hc2 := Lib.hid (ref_digit B k d (i : Int) w hb)
        clear ho hH
        generalize digZ l i = x at *
        generalize digZ k i = y at *
        rcases Nat.lt_trichotomy x y with h | h | h
        · have hq := Lib.hid (hHo.out.1 h)
          go_wp2_with (go_at_call 66; (first | with_reducible refine hc1.out.mono ?_ | with_reducible refine hc2.out.mono ?_); rintro e w' ⟨rfl, rfl⟩)
          go_ret
          exact ⟨by rw [hq.out]; rfl, rfl⟩
        · subst h
          have hq := Lib.hid (hHo.out.2.2 rfl)
          go_wp2_with (go_at_call 66; (first | with_reducible refine hc1.out.mono ?_ | with_reducible refine hc2.out.mono ?_); rintro e w' ⟨rfl, rfl⟩)
          go_round
          case rel => exact ⟨i, rfl, by omega, hq⟩
          case measure => simp [intOf]
        · have hq := Lib.hid (hHo.out.2.1 h)
          have hn : ¬ x < y := by omega
          go_wp2_with (go_at_call 66; (first | with_reducible refine hc1.out.mono ?_ | with_reducible refine hc2.out.mono ?_); rintro e w' ⟨rfl, rfl⟩)
          go_ret
          exact ⟨by rw [hq.out]; rfl, rfl⟩
/-- In numbers alone. -/
theorem minusN {u v : Value} {m n : Nat} (w : World) (hu : IsV w u m) (hv : IsV w v n) (hle : n ≤ m) : Calls Tryd.prog 84 #[u, v] w (RetNF (m - n) w) := by
  obtain ⟨A, l, c, rfl, hD, rfl, hl⟩ := hu
  obtain ⟨B, k, d, rfl, hE, rfl, hk⟩ := hv
  exact ref_Minus A l c B k d w hD hE hl hle
theorem orderN {u v : Value} {m n : Nat} (w : World) (hu : IsV w u m) (hv : IsV w v n) : Calls Tryd.prog 40 #[u, v] w fun e w' => e = .returned (.int .i64 (order m n)) ∧ w = w' := by
  obtain ⟨A, l, c, rfl, hD, rfl, hl⟩ := hu
  obtain ⟨B, k, d, rfl, hE, rfl, hk⟩ := hv
  exact ref_Order A l c B k d w hD hE hl hk
end Go.Proofs.YtdlmamnnamlleaaDoor
namespace Go.Proofs.YtdlmamnnamlleaaDoor
open Go.ChangeShapes Go.WideShapes Go.ChangeAt Go.RowKit
set_option maxHeartbeats 1000000
set_option maxRecDepth 100000

/-- A literal of one element is the call's own. -/
theorem Own.lit {w0 W : World} {B : Nat} (e : TypeId) (u : Value) (hb : Below B w0 W) (hB : B ≤ W.heap.size) : Own w0 B e (.slice (some ⟨W.heap.size, 0, none⟩) 1 1) [u] (W.alloc (.cells #[u] e)) :=
  ⟨World.ownsRow_lit W #[u] 1 hB (by unfold maxLen; omega) rfl, hb.alloc hB _, by simp; omega⟩
/-- What Parts has ahead of digit i - 1. -/
def ptQ (a m i : Nat) : Nat := a / 65536 ^ i / m * 65536 ^ i
def ptR (a m i : Nat) : Nat := a / 65536 ^ i % m
theorem pt_up {l : List Nat} (h : Sm l) (i : Nat) : val l / 65536 ^ i = l[i]?.getD 0 + 65536 * (val l / 65536 ^ (i + 1)) := by
  rw [val_at h, Nat.pow_succ, ← Nat.div_div_eq_div_mul, Nat.mod_add_div]
theorem pt_round {a m i d : Nat} (hm : 0 < m) (h : a / 65536 ^ i = d + 65536 * (a / 65536 ^ (i + 1))) :
    ptR a m i = (d + 65536 * ptR a m (i + 1)) % m ∧ ptQ a m i = ptQ a m (i + 1) + 65536 ^ i * ((d + 65536 * ptR a m (i + 1)) / m) := by
  unfold ptR ptQ
  rw [h]
  generalize a / 65536 ^ (i + 1) = A
  have hA := Nat.mod_add_div A m
  have e : d + 65536 * A = (d + 65536 * (A % m)) + m * (65536 * (A / m)) := by
    conv => lhs; rw [← hA]
    rw [Nat.mul_add, Nat.mul_left_comm 65536 m]; omega
  rw [e, Nat.add_mul_mod_self_left, Nat.add_mul_div_left _ _ hm]
  refine ⟨rfl, ?_⟩
  rw [Nat.add_mul, Nat.pow_succ, Nat.add_comm, Nat.mul_comm ((d + 65536 * (A % m)) / m)]
  congr 1
  rw [Nat.mul_comm 65536 (A / m), Nat.mul_assoc, Nat.mul_comm 65536]
theorem pt_start {l : List Nat} (h : Sm l) (m : Nat) : ptR (val l) m l.length = 0 ∧ ptQ (val l) m l.length = 0 := by
  have : val l / 65536 ^ l.length = 0 := Nat.div_eq_of_lt (val_lt h)
  unfold ptR ptQ
  rw [this]; simp
theorem pt_end (a m : Nat) : ptR a m 0 = a % m ∧ ptQ a m 0 = a / m := by simp [ptR, ptQ]
theorem pt_lt {a m i : Nat} (hm : 0 < m) : ptR a m i < m := Nat.mod_lt _ hm

def RetQR (q r : Nat) (w : World) (e : Ending) (w' : World) : Prop := ∃ u v, e = .returned (.tuple #[u, v]) ∧ IsN w' u q ∧ IsN w' v r ∧ Below w.heap.size w w'

theorem own_digs {w0 W : World} {B : Nat} {e : TypeId} {v : Value} {l : List Nat} (h : Own w0 B e v (digV l) W) (hs : Sm l) : ∃ A c, v = .slice A l.length c ∧ Ds W A l c ∧ Own w0 B e (.slice A l.length c) (digV l) W := by
  obtain ⟨A, c, e1, -, -⟩ := h.form
  rw [digV_len] at e1
  subst e1
  exact ⟨A, c, rfl, (ds_own h hs).2, h⟩
theorem lt_len {l : List Nat} {n : Nat} (h : Dg l n) (hn : n < big) : l.length ≤ 10000 := by
  have := h.len hn
  unfold bigK at this
  exact this
theorem order_le {a b : Nat} (h : a ≤ b) : order a b ≤ 0 := by
  by_cases e : a < b
  · rw [show order a b = -1 from if_pos e]; omega
  · unfold order; rw [if_neg e, if_neg (by omega)]; omega
theorem order_nle {a b : Nat} (h : ¬ a ≤ b) : ¬ order a b ≤ 0 := by unfold order; rw [if_neg (by omega), if_pos (by omega)]; omega

theorem ref_Parts (A : Option Addr) (l : List Nat) (c : Nat) {v : Value} {m : Nat} (w : World) (ha : Ds w A l c) (hl : l.length ≤ 500000) (hv : IsV w v m) (hm : 0 < m) (hmb : 65536 * m < big) :
    Calls Tryd.prog 68 #[.slice A l.length c, v] w (RetQR (val l / m) (val l % m) w) := by
  have hmk := run_make_dig l.length (by omega)
  have hR := DRow.new w (List.replicate l.length 0) 3
  have hL : Below w.heap.size w (w.alloc (.cells (digA (List.replicate l.length 0)) 3)) := by go_grown
  obtain ⟨n, hn⟩ : ∃ n, n = l.length := ⟨_, rfl⟩
  go_enter Tryd.func68, Tryd.ntmps68
  go_wp2
  generalize w.alloc (.cells (digA (List.replicate l.length 0)) 3) = W0 at *
  go_loopw [7, 8] (fun r i wr => ∃ (s : Nat) (L : List Nat), i = .int .i64 ((s : Int) - 1) ∧ s ≤ l.length ∧ L.length ≤ l.length ∧ l.length ≤ L.length ∧ DRow wr w.heap.size L ∧ IsNF wr (w.heap.size + 1) r (ptR (val l) m s) ∧ Below w.heap.size w wr ∧
    Hid (Sm L ∧ val L = ptQ (val l) m s ∧ ∀ j, j < s → L[j]?.getD 0 = 0)) (fun _ i _ => (intOf i + 1).toNat)
  case atStart =>
    refine ⟨l.length, _, rfl, Nat.le_refl _, by simp, by simp, hR, ?_, hL, sm_zeros _, by rw [val_zeros, (pt_start ha.sm m).2], fun j _ => by simp [List.getElem?_replicate]; split <;> rfl⟩
    rw [(pt_start ha.sm m).1]
    exact ⟨none, [], 0, rfl, ⟨Rd.nil, Sm.nil, by simp, by omega⟩, Dg.nil, fun ad h => by cases h⟩
  case round =>
    clear hR hL hmk
    obtain ⟨s, L, rfl, hs, hL1, hL2, hR, hN, hL, hH⟩ := hrel
    rcases Nat.eq_zero_or_pos s with rfl | hs0
    · rw [(pt_end (val l) m).1] at hN
      have hvL := hH.out.2.1
      rw [(pt_end (val l) m).2] at hvL
      have hHvL := Lib.hid hvL
      have hDs := hR.ds hH.out.1 (by omega)
      have hlen := Lib.hid (show L.length = l.length by omega)
      have hcon := Lib.hid (ref_trim _ L _ wr hDs)
      rw [hlen.out] at hcon
      rw [hlen.out] at hDs
      have hHDs := Lib.hid hDs
      clear hvL hDs
      go_wp2_with (go_at_call 67; refine hcon.out.mono ?_; rintro e w' ⟨q, hq, rfl, hg, rfl⟩)
      go_ret2
      exact ⟨_, _, rfl, hHvL.out ▸ isN_trim hHDs.out hq hg, hN.toN, hL⟩
    · obtain ⟨i, rfl⟩ : ∃ i, s = i + 1 := ⟨s - 1, by omega⟩
      rw [show (((i + 1 : Nat) : Int) - 1) = (i : Int) by omega]
      have hlt : i < l.length := by omega
      obtain ⟨ad, rfl, hbl, hc⟩ := digV_at (ha.below hL (Nat.le_refl _)).rd hlt
      have hpr := Lib.hid (pt_round (m := m) hm (pt_up ha.sm i))
      rw [List.getElem?_eq_getElem hlt, Option.getD_some] at hpr
      have hrm := pt_lt (a := val l) (i := i + 1) hm
      have hd := ha.sm l[i] (List.getElem_mem _)
      generalize l[i] = d at *
      generalize hr : ptR (val l) m (i + 1) = r at *
      have hHr := Lib.hid hr
      clear hr
      obtain ⟨A2, k, c2, rfl, hD, hG, hB⟩ := hN
      have hkb : k.length ≤ 10000 := lt_len hG (by omega)
      have hO := Own.lit (w0 := wr) (W := wr) (e := 3) (u := .int .i64 (d : Int)) (Below.refl _ _) (Nat.le_refl _)
      obtain ⟨L1, hL1e⟩ : ∃ L1, L1 = d :: k := ⟨_, rfl⟩
      have hs1 : Sm L1 := by rw [hL1e]; exact fun x hx => by rcases List.mem_cons.1 hx with h | h; exact h ▸ hd; exact hD.sm x h
      have hv1 : val L1 = d + 65536 * r := by rw [hL1e, ← hG.val]; rfl
      have hdg : [Value.int IntKind.i64 (d : Int)] ++ digV k = digV L1 := by rw [hL1e]; rfl
      have hrd := (hD.below (below_alloc wr (Obj.cells #[Value.int IntKind.i64 (d : Int)] 3)) (Nat.le_refl _)).rd
      have hHdg := Lib.hid hdg
      have hHv1 := Lib.hid hv1
      clear hL1e hv1 hdg hG hD
      go_wp2_with (first
        | (at_builtin; refine wpList_own (o := ⟨some 28, _, _, _, _, _⟩) rfl (.tmp 26) (.tmp 27) 89 rfl SI rfl hO (news := digV k) (c := c2) (by rw [digV_len]; rfl) hrd (digV_one k) (by rw [digV_len]; unfold maxLen; simp; omega) (by rw [digV_len]; simp; omega) ?_; intro v1 w1 hO1 hg1 hat1; clear hg1 hat1; rw [hHdg.out] at hO1; obtain ⟨A1, c1, rfl, hD1, hO2⟩ := own_digs hO1 hs1; clear hO1)
        | (go_at_call 67; refine (ref_trim A1 L1 c1 _ hD1).mono ?_; rintro e w' ⟨q, hq, rfl, hg, rfl⟩; have hN1 := isNF_trim hO2 hs1 hq hg))
      have hgl := hR.row.lt
      have hbw := hO2.bel
      rw [hHv1.out] at hN1
      have hN1 := hN1.mono (show w.heap.size + 1 ≤ wr.heap.size by omega)
      generalize Value.slice A1 q c1 = r1 at *
      have hR1 := hR.below hbw hgl
      have hL1' := below_step hbw hL (Nat.le_refl _)
      obtain ⟨R1, hR1e⟩ : ∃ R1, R1 = d + 65536 * r := ⟨_, rfl⟩
      rw [← hR1e] at hN1 hpr
      have hR1m : R1 < 65536 * m := by rw [hR1e]; have : 65536 * r + 65536 ≤ 65536 * m := by omega
                                       omega
      clear hR1e hO hO2 hD1 hg hq hrd hHdg hHv1 hR hL hbw hc hs1
      go_loopw [9, 10] (fun a b wr => ∃ lo hi : Nat, a = .int .i64 lo ∧ b = .int .i64 hi ∧ lo < hi ∧ hi ≤ 65536 ∧ DRow wr w.heap.size L ∧ IsNF wr (w.heap.size + 1) r1 R1 ∧ Below w.heap.size w wr ∧ Hid (m * lo ≤ R1 ∧ R1 < m * hi)) (fun a b _ => (intOf b).toNat - (intOf a).toNat)
      case atStart => exact ⟨0, 65536, rfl, rfl, by omega, by omega, hR1, hN1, hL1', Lib.hid ⟨by omega, by omega⟩⟩
      case round =>
        clear hR1 hN1 hL1'
        obtain ⟨lo, hi, rfl, rfl, hlh, hh, hR, hN, hL, hI⟩ := hrel
        have hRb : R1 < big := by omega
        by_cases hgo : lo + 1 < hi
        · obtain ⟨mid, hmid⟩ : ∃ mid, mid = (lo + hi) / 2 := ⟨_, rfl⟩
          have hmi : ((lo : Int) + hi) / 2 = mid := by omega
          have hm1 : lo < mid := by omega
          have hm2 : mid < hi := by omega
          have hgi : (1 : Int) < (hi : Int) - lo := by omega
          have hmb2 : m * mid < big := Nat.lt_of_le_of_lt (Nat.mul_le_mul_left m (show mid ≤ 65536 by omega)) (by rw [Nat.mul_comm]; exact hmb)
          have hnf := Lib.hid hN
          have hvw := Lib.hid (hv.step hL)
          clear hmid hgo
          by_cases hle : m * mid ≤ R1
          · obtain ⟨o, ho, ho2⟩ : ∃ o : Int, order (m * mid) R1 = o ∧ o ≤ 0 := ⟨_, rfl, order_le hle⟩
            have hHo := Lib.hid ho
            clear ho
            go_wp2_with (first
              | (go_at_call 43; refine (timesN (m := m) (n := mid) _ (hvw.out.step (below_alloc _ _)) (IsV.lit _ _ (by omega))).mono ?_; rintro e w' ⟨t, rfl, ht, hbt⟩; have hbt := (below_alloc _ _).trans (hbt.mono (by simp)))
              | (go_at_call 40; refine (orderN (m := m * mid) (n := R1) _ (ht.toV hmb2) ((hnf.out.step hbt).toN.toV hRb)).mono ?_; rintro e w' ⟨rfl, rfl⟩; rw [hHo.out]))
            go_roundw
            case rel => exact ⟨mid, hi, rfl, rfl, hm2, hh, hR.below hbt hR.row.lt, hN.step hbt, below_step hbt hL (Nat.le_refl _), Lib.hid ⟨hle, hI.out.2⟩⟩
            case measure => simp [intOf]; omega
          · obtain ⟨o, ho, ho2⟩ : ∃ o : Int, order (m * mid) R1 = o ∧ ¬ o ≤ 0 := ⟨_, rfl, order_nle hle⟩
            have hHo := Lib.hid ho
            clear ho
            go_wp2_with (first
              | (go_at_call 43; refine (timesN (m := m) (n := mid) _ (hvw.out.step (below_alloc _ _)) (IsV.lit _ _ (by omega))).mono ?_; rintro e w' ⟨t, rfl, ht, hbt⟩; have hbt := (below_alloc _ _).trans (hbt.mono (by simp)))
              | (go_at_call 40; refine (orderN (m := m * mid) (n := R1) _ (ht.toV hmb2) ((hnf.out.step hbt).toN.toV hRb)).mono ?_; rintro e w' ⟨rfl, rfl⟩; rw [hHo.out]))
            go_roundw
            case rel => exact ⟨lo, mid, rfl, rfl, hm1, by omega, hR.below hbt hR.row.lt, hN.step hbt, below_step hbt hL (Nat.le_refl _), Lib.hid ⟨hI.out.1, by omega⟩⟩
            case measure => simp [intOf]; omega
        · have hgi : ¬ (1 : Int) < (hi : Int) - lo := by omega
          have hq : R1 / m = lo := by
            have h1 := hI.out.1
            have h2 := hI.out.2
            rw [show hi = lo + 1 by omega] at h2
            exact Nat.div_eq_of_lt_le (by rw [Nat.mul_comm]; exact h1) (by rw [Nat.mul_comm]; exact h2)
          rw [hq] at hpr
          have hRm : R1 % m = R1 - m * lo := by
            have := Nat.mod_add_div R1 m
            rw [hq] at this; omega
          rw [hRm] at hpr
          have hlo : lo < 65536 := by omega
          have hle := hI.out.1
          have hmb2 : m * lo < big := by omega
          have hnf := Lib.hid hN
          have hvw := Lib.hid (hv.step hL)
          have hQ0 := hH.out.2.2 i (by omega)
          have hvs := val_set L i lo (by omega)
          rw [hQ0, Nat.mul_zero, Nat.add_zero, hH.out.2.1, ← hpr.out.2] at hvs
          have hfin : Hid (Sm (L.set i lo) ∧ val (L.set i lo) = ptQ (val l) m i ∧ ∀ j, j < i → (L.set i lo)[j]?.getD 0 = 0) :=
            Lib.hid ⟨hH.out.1.set _ hlo, hvs, fun j hj => by rw [List.getElem?_set_ne (by omega)]; exact hH.out.2.2 j (by omega)⟩
          have hsl1 : (L.set i lo).length ≤ l.length := by simp; omega
          have hsl2 : l.length ≤ (L.set i lo).length := by simp; omega
          have hpr1 := Lib.hid hpr.out.1
          clear hq hRm hQ0 hvs hpr hI
          have hget : DRow (wr.setCell ⟨w.heap.size, i, none⟩ (.int .i64 (lo : Int))) w.heap.size (L.set i lo) := hR.set i lo
          by_cases h0 : lo = 0
          · have h0' : ¬ (0 : Int) < lo := by omega
            have hRr : ptR (val l) m i = R1 := by rw [hpr1.out, h0]; simp
            have hHRr := Lib.hid hRr
            have c1 := hR.cell (i := i) (by omega)
            have f1 := hR.row.frozen i
            have hHg := Lib.hid hget
            clear h0 hRr hpr1 hget
            go_wp2
            go_roundw
            case rel => exact ⟨i, L.set i lo, rfl, by omega, hsl1, hsl2, hHg.out, hHRr.out ▸ hN.setCell (by simp) _, hL.setCell (Nat.le_refl _) _, hfin⟩
            case measure => simp [intOf]
          · have h0' : (0 : Int) < lo := by omega
            clear h0 hget
            go_wp2_with (first
              | (go_at_call 43; refine (timesN (m := m) (n := lo) _ (hvw.out.step (below_alloc _ _)) (IsV.lit _ _ hlo)).mono ?_; rintro e w' ⟨t, rfl, ht, hbt⟩; have hbt := (below_alloc _ _).trans (hbt.mono (by simp)))
              | (go_at_call 84; refine (minusN (m := R1) (n := m * lo) _ ((hnf.out.step hbt).toN.toV hRb) (ht.toV hmb2) hle).mono ?_; rintro e w2 ⟨r2, rfl, hN2, hb2⟩; have hb3 := below_step hb2 hbt (Nat.le_refl _); have hR3 := hR.below hb3 hR.row.lt; have c1 := hR3.cell (i := i) (by omega); have f1 := hR3.row.frozen i; have hL3 := below_step hb3 hL (Nat.le_refl _); have hN3 := hN2.mono (show w.heap.size + 1 ≤ w'.heap.size from Nat.le_trans hR.row.lt hbt.size)))
            go_roundw
            case rel => exact ⟨i, L.set i lo, rfl, by omega, hsl1, hsl2, hR3.set i lo, hpr1.out ▸ hN3.setCell (by simp) _, hL3.setCell (Nat.le_refl _) _, hfin⟩
            case measure => simp [intOf]
/-- In numbers alone. -/
theorem partsN {u v : Value} {a m k : Nat} (w : World) (hu : IsN w u a) (ha : a < 2 ^ k) (hk : k ≤ 160000) (hv : IsV w v m) (hm : 0 < m) (hmb : 65536 * m < big) :
    Calls Tryd.prog 68 #[u, v] w (RetQR (a / m) (a % m) w) := by
  obtain ⟨A, l, c, rfl, hD, hG⟩ := hu
  have hl := lt_len hG (lt_big ha hk)
  have h := ref_Parts A l c w hD (by omega) hv hm hmb
  rw [hG.val] at h
  exact h
theorem restN {u v : Value} {a m k : Nat} (w : World) (hu : IsN w u a) (ha : a < 2 ^ k) (hk : k ≤ 160000) (hv : IsV w v m) (hm : 0 < m) (hmb : 65536 * m < big) :
    Calls Tryd.prog 44 #[u, v] w (RetN (a % m) w) := by
  have hc := Lib.hid (partsN w hu ha hk hv hm hmb)
  obtain ⟨A, l, c, rfl, -⟩ := hu
  obtain ⟨B, l2, c2, rfl, -⟩ := hv
  go_enter Tryd.func44, Tryd.ntmps44
  go_wp2_with fail
  refine hc.out.mono ?_
  rintro e w' ⟨u, v, rfl, -, hN, hb⟩
  go_wp2
  go_ret
  exact ⟨v, rfl, hN, hb⟩
/-- The number that a slice's digits are. -/
def digOf (w : World) : Value → Nat
  | .slice (some ad) n _ => val ((List.range n).map fun j => (intOf ((w.cell? (ad.add j)).getD undef)).toNat)
  | _ => 0
theorem digOf_is {w : World} {v : Value} {n : Nat} (h : IsN w v n) : digOf w v = n := by
  obtain ⟨A, l, c, rfl, hD, hG⟩ := h
  cases A with
  | none =>
    have : l = [] := by
      cases l with
      | nil => rfl
      | cons d r => obtain ⟨ad, e, -⟩ := hD.rd 0 _ rfl; cases e
    subst this
    exact hG.val
  | some ad =>
    show val _ = n
    rw [← hG.val]
    congr 1
    apply List.ext_getElem (by simp)
    intro j h1 h2
    have := hD.rd.all (j := j) (u := .int .i64 (l[j] : Nat)) (by simp [digV, h2])
    simp [this, intOf]
end Go.Proofs.YtdlmamnnamlleaaDoor
