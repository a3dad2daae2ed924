/- Several texts one behind the other: Clone TailW Tp3 Tp4 NumP Num NumT Num2 At Buf Tp5 Tp6 Tp7 Open Args Args2 Door. -/
import Derived.Test.YtdlmamnnamlleaaDoorShaL
import Derived.Test.YtdlmamnnamlleaaDoorOwn
import Derived.Outline
import Derived.Test.YtdlmamnnamlleaaDoorTail
import Derived.Test.YtdlmamnnamlleaaDoorTp2
import Derived.WalkKit
import Derived.Test.YtdlmamnnamlleaaDoorFrame
import Derived.Test.YtdlmamnnamlleaaDoorArrK
import Derived.Handy
import Derived.Lib.Hide
import Derived.Deep.DeepMust
import Derived.Deep.RegionHeld3
import Derived.Deep.RegionWith
import Derived.Test.YtdlmamnnamlleaaDoorMem2
import Derived.Test.YtdlmamnnamlleaaDoorRows
import Derived.ProofKit
import Derived.Test.YtdlmamnnamlleaaDoorPart
import Derived.Test.YtdlmamnnamlleaaDoorApp
import Derived.Test.YtdlmamnnamlleaaDoorMem
import Derived.Test.YtdlmamnnamlleaaDoorSl
import Derived.Deep.Slices
import Derived.Deep.Fields
import Derived.ChangeSame
import Derived.SizedLaws
import Derived.LaidMore
import Derived.Stop.Joined
namespace Go.Proofs.YtdlmamnnamlleaaDoor
open Go.ChangeShapes Go.WideShapes Go.ChangeAt Go.RowKit
set_option maxHeartbeats 1000000
set_option maxRecDepth 100000
theorem SBc : SlT Tryd.prog 22 5 1 1 := SlT.mk' Tryd.underlying22 (by kernel_rfl) (by omega)
theorem equalIn_nilC (d : Nat) (A : Option Addr) (n c : Nat) (w : World) : (Op.equalIn (d + 1) 22 (.slice A n c) (.slice none 0 0)).run Tryd.prog w = .ok A.isNone w := by
  cases A <;> simp [Op.equalIn, run_underlying Tryd.underlying22]
theorem equal_nilC (A : Option Addr) (n c : Nat) (w : World) : (Op.equal 22 (.slice A n c) (.slice none 0 0)).run Tryd.prog w = .ok A.isNone w := equalIn_nilC 9999 A n c w
theorem eq_nilC (A : Option Addr) (n c : Nat) (w : World) : (binOp .eql 22 (.slice A n c) (.slice none 0 0)).run Tryd.prog w = .ok (.bool A.isNone) w := by
  simp [binOp, equal_nilC A n c w]
/-- A copy of a slice of bytes. -/
theorem clone_own (A : Option Addr) (p : List UInt8) (n c : Nat) (w : World) (hp : Bs w A p c) (hn : p.length = n) (hmx : n ≤ 140737488351232) :
    Calls Tryd.prog 30 #[.slice A n c] w fun e w' => ∃ A' c', e = .returned (.slice A' n c') ∧ Bs w' A' p c' ∧ Below w.heap.size w w' ∧ (∀ a, A' = some a → w.heap.size ≤ a.block ∧ a.block < w'.heap.size) ∧ w'.ownsRow w.heap.size 5 1 (.slice A' n c') n (bytesV p) := by
  have hp0 := Lib.hid hp
  have hHn := Lib.hid hn
  cases A with
  | none =>
    have hp00 : p = [] := by
      cases p with
      | nil => rfl
      | cons b r => obtain ⟨a, e, -⟩ := hp.rd 0 (.int .u8 (b.toNat : Int)) (by simp [bytesV]); cases e
    subst hp00
    obtain rfl : n = 0 := hn.symm
    clear hp hn hmx
    have hq := eq_nilC none 0 c
    rw [show (none : Option Addr).isNone = true from rfl] at hq
    go_enter Tryd.func30, Tryd.ntmps30
    go_wp2
    go_ret
    exact ⟨none, 0, rfl, ⟨Rd.nil, by simp, by omega⟩, Below.refl _ _, fun a e => (by cases e), World.ownsRow_nil _ _ _ _⟩
  | some a =>
    clear hp hn
    have hq := eq_nilC (some a) n c
    rw [show (some a : Option Addr).isNone = false from rfl] at hq
    go_enter Tryd.func30, Tryd.ntmps30
    have hO := Lib.hid (show (w.alloc (Obj.cells #[] 5)).ownsRow w.heap.size 5 1 (.slice (some ⟨w.heap.size, 0, none⟩) 0 0) 0 [] from
      ⟨rfl, .inr ⟨w.heap.size, 0, #[], rfl, Nat.le_refl _, push_new _ _, Nat.le_refl _, Nat.zero_le _, rfl, rfl⟩⟩)
    have hp1 := Lib.hid (show Bs (w.alloc (Obj.cells #[] 5)) (some a) p c from hp0.out.step (below_alloc _ _))
    go_wp2_with (refine wpList_app rfl (.tmp 5) (.tmp 6) 22 rfl SBc rfl hO.out rfl (by rw [bytesV_length, hHn.out]; omega) hp1.out.rd (bytesV_oneCell p) (by unfold maxLen; omega) (by omega) (by simp) ?_; intro v' w' hO3 hg3 ho3; have hHO3 := Lib.hid (And.intro hO3 (And.intro hg3 ho3)); clear hO3 hg3 ho3)
    obtain ⟨h1, h2, -⟩ := hHO3.out
    rw [List.nil_append, Nat.zero_add] at h1
    have hform : ∃ A' c', v' = .slice A' n c' ∧ n ≤ c' ∧ c' ≤ 9223372036854775807 := by
      rcases h1.2 with ⟨h3, h4⟩ | ⟨g, cap, cur, h3, _, _, h4, h5, _⟩
      · exact ⟨_, 0, by rw [h4]; exact h3, by omega, by omega⟩
      · exact ⟨_, _, h3, h4, by unfold maxLen at h5; omega⟩
    obtain ⟨A', c', rfl, hc1, hc2⟩ := hform
    have hfin := Lib.hid (show Bs w' A' p c' ∧ Below w.heap.size w w' ∧ (∀ a, A' = some a → w.heap.size ≤ a.block ∧ a.block < w'.heap.size) ∧ w'.ownsRow w.heap.size 5 1 (.slice A' n c') n (bytesV p) from ⟨⟨Rd.of_own h1, by rw [hHn.out]; exact hc1, hc2⟩, (below_alloc w _).grown h2 (by simp) (fun k hk => by cases hk; exact Nat.le_refl _), fun a e => h1.lt a.block (by rw [e]; rfl), by exact h1⟩)
    clear hHO3 h1 h2
    go_ret
    exact ⟨A', c', rfl, hfin.out.1, hfin.out.2.1, hfin.out.2.2.1, hfin.out.2.2.2⟩
end Go.Proofs.YtdlmamnnamlleaaDoor
namespace Go.Proofs.YtdlmamnnamlleaaDoor
open Go Go.RowKit

section
variable {P : Program} {ops : Array Oper} {Q : Exit → Act → World → Prop}
def mixR (V : Nat → Option Value) (S : Nat → SRel) (i : Nat) : SRel := match V i with | some c => SRel.is c | none => S i
theorem mixR_some {V : Nat → Option Value} {S : Nat → SRel} {i : Nat} {c v : Value} {w : World} (h : V i = some c) : (mixR V S i).p v w ↔ v = c := by
  unfold mixR; rw [h]; exact Iff.rfl
/-- The one that writes. -/
def WriteOk (P : Program) (ops : Array Oper) (Q : Exit → Act → World → Prop) (R : Nat → SRel) (a0 : Act) (w0 : World) (z : Nat) (Φ : Value → World → Prop) (o : Oper) : Prop :=
  ∀ (a : Act) (w : World) (K : Act → World → Prop), Below w0.heap.size w0 w → UntouchedT ops z a0 a → Came ops R o a w → (∀ v w', Φ v w' → K (a.put o.dst v) w') → if Region.wanted o (yielded ops a.tmps) = true then Oper.wp P o a w K Q else K (a.put o.dst undef) w
theorem write_of {R : Nat → SRel} {a0 : Act} {w0 : World} {z : Nat} {Φ : Value → World → Prop} {o : Oper} (hg : o.guard = none)
    (h : ∀ (a : Act) (w : World) (K : Act → World → Prop), Below w0.heap.size w0 w → UntouchedT ops z a0 a → Came ops R o a w → (∀ v w', Φ v w' → K (a.put o.dst v) w') → Oper.wp P o a w K Q) : WriteOk P ops Q R a0 w0 z Φ o := by
  intro a w K hb hu hc hK
  rw [if_pos (by simp [Region.wanted, hg])]
  exact h a w K hb hu hc hK
/-- One that may run on either side of the write. -/
def PureOk (P : Program) (ops : Array Oper) (Q : Exit → Act → World → Prop) (V : Nat → Option Value) (a0 : Act) (z i : Nat) (o : Oper) : Prop :=
  ∃ c, V i = some c ∧ ∀ (a : Act) (w : World) (K : Act → World → Prop), UntouchedT ops z a0 a → Came ops (fun j => match V j with | some c => SRel.is c | none => SRel.any) o a w → K (a.put o.dst c) w → if Region.wanted o (yielded ops a.tmps) = true then Oper.wp P o a w K Q else K (a.put o.dst undef) w
theorem pure_of {V : Nat → Option Value} {a0 : Act} {z i : Nat} {o : Oper} {c : Value} (hg : o.guard = none) (hV : V i = some c)
    (h : ∀ (a : Act) (w : World) (K : Act → World → Prop), UntouchedT ops z a0 a → Came ops (fun j => match V j with | some c => SRel.is c | none => SRel.any) o a w → K (a.put o.dst c) w → Oper.wp P o a w K Q) : PureOk P ops Q V a0 z i o := by
  refine ⟨c, hV, fun a w K hu hc hK => ?_⟩
  rw [if_pos (by simp [Region.wanted, hg])]
  exact h a w K hu hc hK
/-- The last one. -/
def EndOk (P : Program) (ops : Array Oper) (Q : Exit → Act → World → Prop) (V : Nat → Option Value) (a0 : Act) (q z : Nat) (Φ : Value → World → Prop) (o : Oper) : Prop :=
  ∀ (a : Act) (w : World), UntouchedT ops z a0 a → a.tmps.size = a0.tmps.size → a.defers = a0.defers → (∀ j d c, j ≠ z → V j = some c → dstAt ops j = some d → a.tmps[d]?.getD undef = c) → (∀ d, dstAt ops q = some d → Φ (a.tmps[d]?.getD undef) w) →
    if Region.wanted o (yielded ops a.tmps) = true then Oper.wp P o a w (fun a' w' => Q .normal a' w') Q else Q .normal (a.put o.dst undef) w
theorem end_of {V : Nat → Option Value} {a0 : Act} {q z : Nat} {Φ : Value → World → Prop} {o : Oper} (hg : o.guard = none)
    (h : ∀ (a : Act) (w : World), UntouchedT ops z a0 a → a.tmps.size = a0.tmps.size → a.defers = a0.defers → (∀ j d c, j ≠ z → V j = some c → dstAt ops j = some d → a.tmps[d]?.getD undef = c) → (∀ d, dstAt ops q = some d → Φ (a.tmps[d]?.getD undef) w) → Oper.wp P o a w (fun a' w' => Q .normal a' w') Q) : EndOk P ops Q V a0 q z Φ o := by
  intro a w hu hsz hdf hc hf
  rw [if_pos (by simp [Region.wanted, hg])]
  exact h a w hu hsz hdf hc hf
def StepsW (P : Program) (ops : Array Oper) (Q : Exit → Act → World → Prop) (V : Nat → Option Value) (S : Nat → SRel) (a0 : Act) (w0 : World) (q z : Nat) (Φ : Value → World → Prop) : Nat → List Oper → Prop
  | _, [] => True
  | i, o :: l => (if i = q then WriteOk P ops Q (mixR V S) a0 w0 z Φ o else if i = z then EndOk P ops Q V a0 q z Φ o else if pathB ops ops.size q i = true then StepOkT P ops Q (mixR V S) a0 w0 z i o else PureOk P ops Q V a0 z i o) ∧ StepsW P ops Q V S a0 w0 q z Φ (i + 1) l
theorem stepsW_at {V : Nat → Option Value} {S : Nat → SRel} {a0 : Act} {w0 : World} {q z : Nat} {Φ : Value → World → Prop} : ∀ (l : List Oper) (n i : Nat) (o : Oper), StepsW P ops Q V S a0 w0 q z Φ n l → l[i]? = some o →
    if n + i = q then WriteOk P ops Q (mixR V S) a0 w0 z Φ o else if n + i = z then EndOk P ops Q V a0 q z Φ o else if pathB ops ops.size q (n + i) = true then StepOkT P ops Q (mixR V S) a0 w0 z (n + i) o else PureOk P ops Q V a0 z (n + i) o
  | [], n, i, o, _, h => by simp at h
  | x :: l, n, 0, o, h1, h => by
      have : x = o := by simpa using h
      subst this
      exact h1.1
  | x :: l, n, i + 1, o, h1, h => by
      have := stepsW_at l (n + 1) i o h1.2 (by simpa using h)
      rw [show n + (i + 1) = n + 1 + i by omega]
      exact this
theorem wp_region_write {id : Nat} {a0 : Act} {w0 : World} (V : Nat → Option Value) (S : Nat → SRel) (q z : Nat) (Φ : Value → World → Prop) (hm : P.follows .mixedOrders = true) (he : edgesOk ops = true) (hd : dstsOk ops = true) (hz : slotsOk ops a0.tmps.size = true) (hX : tEdges ops z = true)
    (hqz : q ≠ z) (hqV : V q = none) (hq0 : (dstAt ops q).isSome = true) (hzn : z < ops.size) (hstep : StepsW P ops Q V S a0 w0 q z Φ 0 ops.toList) : (Code.region id ops true).wp P Q a0 w0 := by
  refine wp_region_any hm ?_
  have hlt : ∀ i d, dstAt ops i = some d → i < ops.size := fun i d h => by
    unfold dstAt at h
    rcases Nat.lt_or_ge i ops.size with h1 | h1
    · exact h1
    · rw [Array.getElem?_eq_none h1] at h; cases h
  have hdst : ∀ i j d e, i ≠ j → dstAt ops i = some d → dstAt ops j = some e → d ≠ e := by
    intro i j d e hij h1 h2
    have := List.all_eq_true.1 (List.all_eq_true.1 hd i (by simpa using hlt i d h1)) j (by simpa using hlt j e h2)
    rw [h1, h2] at this
    simpa [hij] using this
  have hslot : ∀ i d, dstAt ops i = some d → d < a0.tmps.size := by
    intro i d h1
    have := List.all_eq_true.1 hz i (by simpa using hlt i d h1)
    rw [h1] at this
    simpa using this
  obtain ⟨dq, hdq⟩ := Option.isSome_iff_exists.1 hq0
  have hqn := hlt q dq hdq
  obtain ⟨f, hf⟩ : ∃ f, ops.size = f + 1 := ⟨ops.size - 1, by omega⟩
  have hcl2 : ∀ (listed : Array Bool) (i : Nat) (o : Oper), i < listed.size → (∀ k o, listed.getD k false = true → ops[k]? = some o → ∀ e ∈ o.after, Region.binds .any e = true → listed.getD e.on false = true) → ops[i]? = some o → (∀ e ∈ o.after, Region.binds .any e = true → listed.getD e.on false = true) →
      (∀ k o, (listed.setIfInBounds i true).getD k false = true → ops[k]? = some o → ∀ e ∈ o.after, Region.binds .any e = true → (listed.setIfInBounds i true).getD e.on false = true) := by
    intro listed i o hil hcl ho h2 k o' hk ho' e he1 he2
    have hle : listed.getD e.on false = true := by
      by_cases hki : k = i
      · subst hki
        rw [ho] at ho'
        cases ho'
        exact h2 e he1 he2
      · have hk' : listed.getD k false = true := by simpa [Array.getElem?_setIfInBounds_ne (Ne.symm hki)] using hk
        exact hcl k o' hk' ho' e he1 he2
    by_cases hei : e.on = i
    · rw [hei]; simp [hil]
    · simpa [Array.getElem?_setIfInBounds_ne (Ne.symm hei)] using hle
  have hpath : ∀ (listed : Array Bool) (i j : Nat) (o : Oper), (∀ k o, listed.getD k false = true → ops[k]? = some o → ∀ e ∈ o.after, Region.binds .any e = true → listed.getD e.on false = true) →
      ops[i]? = some o → (∀ e ∈ o.after, Region.binds .any e = true → listed.getD e.on false = true) → pathB ops ops.size i j = true → listed.getD j false = true := by
    intro listed i j o hcl ho h2 hp
    rw [hf] at hp
    obtain ⟨o', ho', e, he, hb', h6⟩ := path_on hp
    rw [ho] at ho'
    cases ho'
    have hl := h2 e he hb'
    rcases h6 with h6 | h6
    · rw [← h6]; exact hl
    · exact path_listed hcl f e.on j hl h6
  have hunt : ∀ (a : Act) (i : Nat) (o : Oper) (v : Value), i ≠ z → ops[i]? = some o → i < ops.size → UntouchedT ops z a0 a → UntouchedT ops z a0 (a.put o.dst v) := by
    intro a i o v hiz ho hi hu s hs'
    have hns : o.dst ≠ some s := by
      have h6 := List.all_eq_true.1 hs' i (by simpa using hi)
      rw [Bool.or_eq_true] at h6
      rcases h6 with h6 | h6
      · exact absurd (by simpa using h6) hiz
      · unfold dstAt at h6
        rw [ho] at h6
        simpa using h6
    rw [← hu s hs']
    cases hd' : o.dst with
    | none => rfl
    | some d =>
      have hne : d ≠ s := fun e => hns (by rw [hd', e])
      simp [Act.put, Array.getElem?_setIfInBounds_ne hne]
  have hput : ∀ (a : Act) (i : Nat) (o : Oper) (v : Value) (d : Tmp), ops[i]? = some o → dstAt ops i = some d → a.tmps.size = a0.tmps.size → (a.put o.dst v).tmps[d]?.getD undef = v := by
    intro a i o v d ho hjd hsz
    have hd1 := hslot i d hjd
    have hod : o.dst = some d := by unfold dstAt at hjd; rw [ho] at hjd; exact hjd
    rw [hod]
    rw [← hsz] at hd1
    simp [Act.put, hd1]
  have hoth : ∀ (a : Act) (i j : Nat) (o : Oper) (v : Value) (d : Tmp), i ≠ j → ops[i]? = some o → dstAt ops j = some d → (a.put o.dst v).tmps[d]?.getD undef = a.tmps[d]?.getD undef := by
    intro a i j o v d hij ho hjd
    cases hd' : o.dst with
    | none => rfl
    | some d' =>
      have hne : d' ≠ d := hdst i j d' d hij (by unfold dstAt; rw [ho]; exact hd') hjd
      simp [Act.put, Array.getElem?_setIfInBounds_ne hne]
  have hsz2 : ∀ (a : Act) (o : Oper) (v : Value), (a.put o.dst v).tmps.size = a.tmps.size := by
    intro a o v; cases hd' : o.dst <;> simp [Act.put]
  have hdf2 : ∀ (a : Act) (o : Oper) (v : Value), (a.put o.dst v).defers = a.defers := by
    intro a o v; cases hd' : o.dst <;> simp [Act.put]
  have hset : ∀ (listed : Array Bool) (i j : Nat), i ≠ j → (listed.setIfInBounds i true).getD j false = listed.getD j false := by
    intro listed i j hij; simp [Array.getElem?_setIfInBounds_ne hij]
  refine wpAny_inv he (fun listed a w => ((∀ k o, listed.getD k false = true → ops[k]? = some o → ∀ e ∈ o.after, Region.binds .any e = true → listed.getD e.on false = true) ∧ listed.getD z false = false ∧ UntouchedT ops z a0 a ∧ a.tmps.size = a0.tmps.size ∧ a.defers = a0.defers ∧
      (∀ j d c, listed.getD j false = true → V j = some c → dstAt ops j = some d → a.tmps[d]?.getD undef = c) ∧
      ((listed.getD q false = false ∧ Below w0.drew.heap.size w0.drew w ∧ ∀ j d, listed.getD j false = true → dstAt ops j = some d → (mixR V S j).p (a.tmps[d]?.getD undef) w) ∨ (listed.getD q false = true ∧ Φ (a.tmps[dq]?.getD undef) w))) ∨ ((∀ j, j < ops.size → listed.getD j false = true) ∧ Q .normal a w)) ?_ ?_ _ _ _ _ (by simp) ?_ ?_
  · rintro listed a w i o hs (⟨hcl, hzl, hu, hsz, hdf, hV, hI⟩ | ⟨hall, -⟩) hi h1 ho h2
    · have hil : i < listed.size := by omega
      have hst := stepsW_at ops.toList 0 i o hstep (by rw [Array.getElem?_toList]; exact ho)
      rw [Nat.zero_add] at hst
      have hcl' := hcl2 listed i o hil hcl ho h2
      have h1' : listed.getD i false = false := by
        rw [Array.getD_eq_getD_getElem?] at h1 ⊢
        simp [hil] at h1 ⊢
        exact h1
      have hcame : ∀ j, (o.after.toList.any fun e => e.on == j && Region.binds .any e) = true → listed.getD j false = true := by
        intro j hj
        obtain ⟨e, he1, he2⟩ := List.any_eq_true.1 hj
        have he1 : e ∈ o.after := Array.mem_toList_iff.1 he1
        simp only [Bool.and_eq_true, beq_iff_eq] at he2
        rw [← he2.1]
        exact h2 e he1 he2.2
      by_cases hiq : i = q
      · -- the write
        subst hiq
        rw [if_pos rfl] at hst
        rcases hI with ⟨hql, hb, hR⟩ | ⟨hql, -⟩
        · refine wpOp_step ho fun K hK => hst a w K (below_step hb (Below.refl _ _).drew (Nat.le_refl _)) hu (fun j d hj hjd => hR j d (hcame j hj) hjd) fun v w' hv => hK _ _ (.inl ⟨hcl', by rw [hset _ _ _ hqz]; exact hzl, hunt a i o v hqz ho hi hu, by rw [hsz2]; exact hsz, by rw [hdf2]; exact hdf, fun j d c hj hVj hjd => ?_, .inr ⟨by simp [hil], by rw [hput a i o v dq ho hdq hsz]; exact hv⟩⟩)
          by_cases hij : i = j
          · subst hij; rw [hqV] at hVj; cases hVj
          · rw [hset _ _ _ hij] at hj
            rw [hoth a i j o v d hij ho hjd]
            exact hV j d c hj hVj hjd
        · rw [h1'] at hql; cases hql
      · rw [if_neg hiq] at hst
        by_cases hiz : i = z
        · -- the last
          subst hiz
          rw [if_pos rfl] at hst
          have hallj : ∀ j, j < ops.size → j ≠ i → listed.getD j false = true := by
            intro j hj hji
            have h5 := List.all_eq_true.1 hX j (by simpa using hj)
            rw [Bool.or_eq_true] at h5
            rcases h5 with h5 | h5
            · exact absurd (by simpa using h5) hji
            · exact hpath listed i j o hcl ho h2 h5
          have hql := hallj q hqn (Ne.symm hiq)
          have hF : Φ (a.tmps[dq]?.getD undef) w := by
            rcases hI with ⟨hq2, -⟩ | ⟨-, hF⟩
            · rw [hql] at hq2; cases hq2
            · exact hF
          have hL := hst a w hu hsz hdf (fun j d c hj hVj hjd => hV j d c (hallj j (hlt j d hjd) hj) hVj hjd) (fun d hd' => by rw [hdq] at hd'; cases hd'; exact hF)
          refine wpOp_step ho fun K hK => ?_
          have hk : ∀ a' w', Q .normal a' w' → K a' w' := fun a' w' h => hK a' w' (.inr ⟨fun j hj => by
            by_cases hji : j = i
            · subst hji; simp [hil]
            · rw [hset _ _ _ (Ne.symm hji)]; exact hallj j hj hji, h⟩)
          by_cases hw : Region.wanted o (yielded ops a.tmps) = true
          · rw [if_pos hw] at hL ⊢
            exact Oper.wp_mono (fun a' w' h => hk a' w' h) hL
          · rw [if_neg hw] at hL ⊢
            exact hk _ _ hL
        · rw [if_neg hiz] at hst
          by_cases hp : pathB ops ops.size q i = true
          · -- ahead of the write
            rw [if_pos hp] at hst
            rcases hI with ⟨hql, hb, hR⟩ | ⟨hql, -⟩
            · refine wpOp_step ho fun K hK => hst a w K (below_step hb (Below.refl _ _).drew (Nat.le_refl _)) hu (fun j d hj hjd => hR j d (hcame j hj) hjd) fun v w' hv hb' => hK _ _ (.inl ⟨hcl', by rw [hset _ _ _ hiz]; exact hzl, hunt a i o v hiz ho hi hu, by rw [hsz2]; exact hsz, by rw [hdf2]; exact hdf, fun j d c hj hVj hjd => ?_, .inl ⟨by rw [hset _ _ _ hiq]; exact hql, below_step hb' hb (Nat.le_refl _), fun j d hj hjd => ?_⟩⟩)
              · by_cases hij : i = j
                · subst hij
                  rw [hput a i o v d ho hjd hsz]
                  exact (mixR_some hVj).1 hv
                · rw [hset _ _ _ hij] at hj
                  rw [hoth a i j o v d hij ho hjd]
                  exact hV j d c hj hVj hjd
              · by_cases hij : i = j
                · subst hij
                  rw [hput a i o v d ho hjd hsz]
                  exact hv
                · rw [hset _ _ _ hij] at hj
                  rw [hoth a i j o v d hij ho hjd]
                  exact (mixR V S j).st _ _ _ hb' (hR j d hj hjd)
            · have hqo : ∃ oq, ops[q]? = some oq := ⟨ops[q], Array.getElem?_eq_getElem hqn⟩
              obtain ⟨oq, hoq⟩ := hqo
              rw [hpath listed q i oq hcl hoq (fun e he1 he2 => hcl q oq hql hoq e he1 he2) hp] at h1'
              cases h1'
          · -- on either side
            rw [if_neg hp] at hst
            obtain ⟨c, hc, hst⟩ := hst
            refine wpOp_step ho fun K hK => hst a w K hu (fun j d hj hjd => ?_) (hK _ _ (.inl ⟨hcl', by rw [hset _ _ _ hiz]; exact hzl, hunt a i o c hiz ho hi hu, by rw [hsz2]; exact hsz, by rw [hdf2]; exact hdf, fun j d c' hj hVj hjd => ?_, ?_⟩))
            · show (match V j with | some c => SRel.is c | none => SRel.any).p _ _
              cases hVj : V j with
              | none => trivial
              | some cj => exact hV j d cj (hcame j hj) hVj hjd
            · by_cases hij : i = j
              · subst hij
                rw [hput a i o c d ho hjd hsz]
                rw [hc] at hVj
                cases hVj
                rfl
              · rw [hset _ _ _ hij] at hj
                rw [hoth a i j o c d hij ho hjd]
                exact hV j d c' hj hVj hjd
            · rcases hI with ⟨hql, hb, hR⟩ | ⟨hql, hF⟩
              · refine .inl ⟨by rw [hset _ _ _ hiq]; exact hql, hb, fun j d hj hjd => ?_⟩
                by_cases hij : i = j
                · subst hij
                  rw [hput a i o c d ho hjd hsz]
                  exact (mixR_some hc).2 rfl
                · rw [hset _ _ _ hij] at hj
                  rw [hoth a i j o c d hij ho hjd]
                  exact hR j d hj hjd
              · exact .inr ⟨by rw [hset _ _ _ hiq]; exact hql, by rw [hoth a i q o c dq hiq ho hdq]; exact hF⟩
    · have h3 := hall i hi
      rw [Array.getD_eq_getD_getElem?] at h3
      have hil : i < listed.size := by omega
      simp [hil] at h1 h3
      rw [h1] at h3
      cases h3
  · rintro listed a w (⟨-, hq, -⟩ | ⟨-, h⟩) hall
    · have := hall z hzn
      rw [hq] at this
      cases this
    · exact h
  · unfold left
    rw [Array.toList_replicate]
    exact Nat.le_trans (List.length_filter_le _ _) (by simp)
  · have h0 : ∀ j, (Array.replicate ops.size false).getD j false = false := fun j => by
      rw [Array.getD_eq_getD_getElem?, Array.getElem?_replicate]
      split <;> simp
    exact .inl ⟨fun k o hk => absurd hk (by rw [h0]; simp), h0 z, fun _ _ => rfl, rfl, rfl, fun j d c hj => absurd hj (by rw [h0]; simp), .inl ⟨h0 q, Below.refl _ _, fun j d hj => absurd hj (by rw [h0]; simp)⟩⟩
end
end Go.Proofs.YtdlmamnnamlleaaDoor
namespace Go.Proofs.YtdlmamnnamlleaaDoor
open Go.ChangeShapes Go.WideShapes Go.ChangeAt Go.RowKit
set_option maxHeartbeats 2000000
set_option maxRecDepth 100000
section
variable {w : World} {dst : Option Tmp} {x y : Operand} {tt : TypeId} {pos : String} {af : Array Edge} {gd : Option (Nat × Bool)} {a : Act} {K : Act → World → Prop} {Q : Exit → Act → World → Prop}
theorem store_rdp (hv : IsPart (a.eval x)) (h : Row w (blkOf (a.eval x)) 35) (ho : offOf (a.eval x) + 32 ≤ 35) (hx : IsAgg (a.eval y) 32) :
    Oper.wp Tryd.prog ⟨dst, .store 57 x y, tt, pos, af, gd⟩ a w K Q ↔ K (a.put dst undef) (w.setRow (blkOf (a.eval x)) (putAt (rowAt w (blkOf (a.eval x))) (offOf (a.eval x)) (cellsV (a.eval y)).toList)) :=
  wp_store_part (by kernel_rfl) hv h ho hx
end
/-- A copy in memory that is newer than B. -/
def SRel.cl (B : Nat) (l : List UInt8) : SRel := ⟨fun v w => ∃ A c, v = .slice A l.length c ∧ Bs w A l c ∧ ∀ a, A = some a → B ≤ a.block ∧ a.block < w.heap.size, fun _ _ _ hb ⟨A, c, h1, h2, h3⟩ => ⟨A, c, h1, h2.step hb, fun a ha => ⟨(h3 a ha).1, Nat.lt_of_lt_of_le (h3 a ha).2 hb.size⟩⟩⟩
/-- A slice of one such copy. -/
def SRel.cl1 (B : Nat) (l : List UInt8) : SRel := ⟨fun v w => ∃ g A c, v = .slice (some ⟨g, 0, none⟩) 1 1 ∧ w.cell? ⟨g, 0, none⟩ = some (.slice A l.length c) ∧ g < w.heap.size ∧ Bs w A l c ∧ ∀ a, A = some a → B ≤ a.block ∧ a.block < w.heap.size,
  fun _ _ _ hb ⟨g, A, c, h1, h2, h3, h4, h5⟩ => ⟨g, A, c, h1, (hb.cell (p := ⟨g, 0, none⟩) h3).trans h2, Nat.lt_of_lt_of_le h3 hb.size, h4.step hb, fun a ha => ⟨(h5 a ha).1, Nat.lt_of_lt_of_le (h5 a ha).2 hb.size⟩⟩⟩
theorem SRel.cl1_new {w : World} {B c : Nat} {A : Option Addr} {l : List UInt8} (h : Bs w A l c) (ha : ∀ a, A = some a → B ≤ a.block ∧ a.block < w.heap.size) : (SRel.cl1 B l).p (.slice (some ⟨w.heap.size, 0, none⟩) 1 1) (w.alloc (Obj.cells #[Value.slice A l.length c] 22)) :=
  ⟨_, A, c, rfl, by rw [World.cell?_alloc_at _ _ _ _ rfl]; rfl, by simp, h.step (below_alloc _ _), fun a e => ⟨(ha a e).1, by have := (ha a e).2; simp; omega⟩⟩
theorem rd_cell {w : World} {g : Nat} {u : Value} (h : w.cell? ⟨g, 0, none⟩ = some u) (hg : g < w.heap.size) : Rd w w.heap.size (some ⟨g, 0, none⟩) [u] := fun j x hx => by
  have hj : j < 1 := by have := (List.getElem?_eq_some_iff.1 hx).1; simpa using this
  obtain rfl : j = 0 := by omega
  have : x = u := by simpa using hx.symm
  subst this
  exact ⟨_, rfl, hg, h⟩
/-- What the append of a record leaves. -/
def TpPhi (w0 : World) (kA : Option Addr) (kc : Nat) (key m : List UInt8) (v : Value) (recs : List Rc) (q : List UInt8) (p : Nat) (S : Nat) (v' : Value) (w' : World) : Prop :=
  ∃ A n c rc, v' = .slice A n c ∧ Rc.body rc = q ∧ w'.cell? ⟨w0.heap.size, 33, none⟩ = some v ∧ w'.frozen? ⟨w0.heap.size, 33, none⟩ = false ∧ S ≤ w'.heap.size ∧ RdrAt w0 kA kc key m (.slice A n c) (recs ++ [rc]) p (w'.setCell ⟨w0.heap.size, 33, none⟩ (.slice A n c))
theorem TpPhi.of {w0 W W' : World} {kA : Option Addr} {kc : Nat} {key m : List UInt8} {v v' : Value} {recs : List Rc} {q : List UInt8} {p S : Nat} {rc : Rc} (h : RdrAt w0 kA kc key m v recs p W) (hO : OwnK RcK (w0.heap.size + 1) W' v' (recs ++ [rc])) (hg : W.grownBy W' v.ownBlock) (hq : rc.body = q) (hS : S ≤ W.heap.size) : TpPhi w0 kA kc key m v recs q p S v' W' := by
  obtain ⟨A, c, rfl, -, -⟩ := hO.form
  have hk : W'.heap[w0.heap.size]? = W.heap[w0.heap.size]? := hg.block _ h.row.lt (fun e => by have := (h.own.lt e.symm).1; omega)
  exact ⟨A, _, c, rc, rfl, hq, (World.cell?_of_block hk).trans h.c33, (World.frozen?_of_block hk).trans (h.row.frozen 33), Nat.le_trans hS hg.size, h.setV hg hO⟩
theorem size_setRowT {w : World} {g : Nat} {c : Array Value} : (w.setRow g c).heap.size = w.heap.size := by simp [World.setRow]
/-- How far a reader is, as its block says. -/
def posR (w : World) (g : Nat) : Nat := match w.cell? ⟨g, 34, none⟩ with | some (.int _ z) => z.toNat | _ => 0
theorem RdrAt.pos {w0 W : World} {kA : Option Addr} {kc : Nat} {key last : List UInt8} {v : Value} {recs : List Rc} {p : Nat} (h : RdrAt w0 kA kc key last v recs p W) : posR W w0.heap.size = p := by
  unfold posR; rw [h.c34]; exact Int.toNat_natCast p
def RdR (K : Nat → W32) (w0 : World) (kA : Option Addr) (kc : Nat) (key t : List UInt8) (w : World) (e : Ending) (w' : World) : Prop :=
  ∃ (v : Value) (recs : List Rc) (p : Nat) (z : Int) (last : List UInt8), e = .returned (.int .i64 z) ∧ tapeL K key t (t.length + 1) 0 z32 [] = (recs.map Rc.body, p, z, last) ∧ RdrAt w0 kA kc key last v recs p w' ∧ TpOk K key t p last (recs.map Rc.body) ∧ w.heap.size ≤ w'.heap.size
theorem rdr_end {K : Nat → W32} {w0 : World} {kA : Option Addr} {kc : Nat} {key t : List UInt8} {w w' : World} {v : Value} {recs : List Rc} {p : Nat} {z u : Int} {last : List UInt8} (h : tapeL K key t (t.length + 1) 0 z32 [] = (recs.map Rc.body, p, z, last)) (hz : z = u) (hR : RdrAt w0 kA kc key last v recs p w') (hO : TpOk K key t p last (recs.map Rc.body)) (hs : w.heap.size ≤ w'.heap.size) : RdR K w0 kA kc key t w (.returned (.int .i64 u)) w' :=
  ⟨v, recs, p, z, last, by rw [hz], h, hR, hO, hs⟩
attribute [local irreducible] arrV dgA sha macA macZ b64A rdrA tapeL
attribute [local go_sem ↓] load_o32 store_o32 store_rdp
attribute [local go_sem] isHead_mk isPart_mk offOf_mk blkOf_mk isAgg_mk cellsV_mk row_drew rowAt_drew row_new_cells row_old rowAt_new rowAt_old setRow_new zeroD bs_app rdrA_put
theorem rdr_all (K : Nat → W32) (w0 : World) (kA : Option Addr) (kc : Nat) (key : List UInt8) (w : World) (h : RdrAt w0 kA kc key z32 (.slice none 0 0) [] 0 w) (hT : Tabs K w0) (A : Option Addr) (t : List UInt8) (c : Nat) (ht : Bs w0 A t c) (htl : t.length ≤ 140737488351232) :
    Calls Tryd.prog 25 #[.pointer (some ⟨w0.heap.size, 0, none⟩), .slice A t.length c] w (RdR K w0 kA kc key t w) := by
  obtain ⟨R, hRe⟩ : ∃ r, tapeL K key t (t.length + 1) 0 z32 [] = r := ⟨_, rfl⟩
  have hRh := Lib.hid hRe
  clear hRe
  have hh := Lib.hid h
  have hTh := Lib.hid hT
  have hth := Lib.hid ht
  clear h hT ht
  go_enter Tryd.func25, Tryd.ntmps25
  go_upto_region 1 with (fail)
  go_loopw [6] (fun _ wr => ∃ (f : Nat) (v : Value) (recs : List Rc) (p : Nat) (last : List UInt8), Hid (RdrAt w0 kA kc key last v recs p wr) ∧ Hid (TpOk K key t p last (recs.map Rc.body)) ∧ Hid (t.length < f + p ∧ tapeL K key t f p last (recs.map Rc.body) = R) ∧ Hid (w.heap.size ≤ wr.heap.size)) (fun _ wr => t.length + 1 - posR wr w0.heap.size)
  case atStart => exact ⟨t.length + 1, .slice none 0 0, [], 0, z32, hh, Lib.hid (TpOk.start K key t), Lib.hid ⟨by omega, hRh.out⟩, Lib.hid (Nat.le_refl _)⟩
  case round =>
    clear hh
    obtain ⟨f, v, recs, p, last, hRd, hO, hF, hSz⟩ := hrel
    have c34 := hRd.out.c34
    have hpr := Lib.hid hRd.out.pos
    have hp0 : (0 : Int) ≤ (p : Int) := by omega
    by_cases hp : t.length ≤ p
    · have d1 : decide ((p : Int) < (t.length : Int)) = false := by simp; omega
      have d2 : ¬ (p : Int) < (t.length : Int) := by omega
      have hE := Lib.hid (show tapeL K key t (t.length + 1) 0 z32 [] = (recs.map Rc.body, p, 0, last) by rw [hRh.out, ← hF.out.2]; exact tapeL_end hp)
      go_wp2_with fail
      go_ret
      exact rdr_end hE.out rfl hRd.out hO.out hSz.out
    · have d1 : decide ((p : Int) < (t.length : Int)) = true := by simp; omega
      have d2 : (p : Int) < (t.length : Int) := by omega
      have hple : (p : Int) ≤ (t.length : Int) := by omega
      have hB := hth.out.step hRd.out.bel
      obtain ⟨A1, hs1, hs2⟩ := sl_from SBc A t.length c (t.length - p) (p : Int) (by omega) (by omega) (by simp) hB.le
      have e1 : ((p : Nat) : Int).toNat = p := by simp
      rw [e1] at hs1 hs2
      have hB1 := Lib.hid (show Bs wr A1 (t.drop p) (c - p) from ⟨by
        have := hs2 wr wr.heap.size (bytesV t) (by rw [bytesV_length, Nat.mul_one]) hB.rd
        rwa [Nat.mul_one, show (bytesV t).drop p = bytesV (t.drop p) by simp [bytesV, List.map_drop]] at this, by have := hB.le; rw [List.length_drop]; omega, by have := hB.mx; omega⟩)
      have kF0 := der_First A1 (t.drop p) (c - p) wr hB1.out.rd hB1.out.le (by have := hB1.out.mx; unfold maxLen; omega)
      rw [List.length_drop] at kF0
      unfold Fst at kF0
      obtain ⟨tg, l, n, z, hFe⟩ : ∃ tg l n z, firstS (t.drop p) = ((tg, l), n, z) := ⟨_, _, _, _, rfl⟩
      rw [hFe] at kF0
      have hFh := Lib.hid hFe
      have kF := Lib.hid kF0
      clear kF0 hFe hs2 hB e1
      go_upto_region 2 with (fail)
      go_wp2_with fail
      have hlr := Lib.hid hRd.out.row.lt
      refine kF.out.mono ?_
      rintro e w1 ⟨A2, c2, rfl, hr2, hc2, hc3, hfar, hb1⟩
      replace hRd := Lib.hid (hRd.out.step hb1)
      replace hSz := Lib.hid (Nat.le_trans hSz.out hb1.size)
      have hXb := Lib.hid (show Bs w1 A2 l c2 from ⟨hr2, hc2, by unfold maxLen at hc3; exact hc3⟩)
      have hA2 := Lib.hid (fun a (h : A2 = some a) => show a.block ≠ w0.heap.size from fun e => by have := (hfar a h).1; have h8 := hRd.out.bel.size; have h9 := hlr.out; omega)
      clear kF hr2 hfar hb1 c34 d1 d2 hs1 hc3 hlr
      dsimp only
      by_cases hz : z = 0
      · subst hz
        go_upto_region 3 with (fail)
        have hbA := below_alloc w1 (Obj.cells #[Value.int IntKind.u8 (tg.toNat : Int), Value.slice A2 l.length c2] 71)
        have hxc := Lib.hid (show (w1.alloc (Obj.cells #[Value.int IntKind.u8 (tg.toNat : Int), Value.slice A2 l.length c2] 71)).cell? ⟨w1.heap.size, 0, none⟩ = some (.int .u8 (tg.toNat : Int)) ∧ (w1.alloc (Obj.cells #[Value.int IntKind.u8 (tg.toNat : Int), Value.slice A2 l.length c2] 71)).cell? ⟨w1.heap.size, 1, none⟩ = some (.slice A2 l.length c2) ∧ w1.heap.size < (w1.alloc (Obj.cells #[Value.int IntKind.u8 (tg.toNat : Int), Value.slice A2 l.length c2] 71)).heap.size from by
          refine ⟨?_, ?_, by simp⟩ <;> (rw [World.cell?_alloc_at _ _ _ _ rfl]; rfl))
        have hgl := Lib.hid (show w0.heap.size < w1.heap.size from hRd.out.row.lt)
        replace hRd := Lib.hid (hRd.out.step hbA)
        replace hSz := Lib.hid (Nat.le_trans hSz.out hbA.size)
        replace hXb := Lib.hid (hXb.out.step hbA)
        clear hbA
        generalize w1.alloc _ = w2 at *
        generalize w1.heap.size = g5 at *
        have x0 := hxc.out.1
        have x1 := hxc.out.2.1
        by_cases hx : tg ≠ 1 ∨ l.length < 32
        · have hE := Lib.hid (show tapeL K key t (t.length + 1) 0 z32 [] = (recs.map Rc.body, p, 4, last) by rw [hRh.out, ← hF.out.2]; exact tapeL_form hF.out.1 hp hFh.out hx)
          clear hp
          rcases hx with hx | hx
          · have hx1 : ((tg.toNat : Int) != 1) = true := by
              rw [bne_iff_ne]
              intro e
              exact hx (by rw [← UInt8.toNat_inj]; show tg.toNat = 1; omega)
            clear hx
            go_wp2_with fail
            go_ret
            exact rdr_end hE.out rfl hRd.out hO.out hSz.out
          · obtain ⟨bq, hbq⟩ : ∃ b, ((tg.toNat : Int) != 1) = b := ⟨_, rfl⟩
            have hl1 : decide ((l.length : Int) < 32) = true := by simp; omega
            have hl2 : (l.length : Int) < 32 := by omega
            clear hx
            cases bq
            · go_wp2_with fail
              go_ret
              exact rdr_end hE.out rfl hRd.out hO.out hSz.out
            · go_wp2_with fail
              go_ret
              exact rdr_end hE.out rfl hRd.out hO.out hSz.out
        · have ht1 : tg = 1 := by
            by_cases e : tg = 1
            · exact e
            · exact absurd (.inl e) hx
          have hl32 : 32 ≤ l.length := by
            rcases Nat.lt_or_ge l.length 32 with e | e
            · exact absurd (.inr e) hx
            · exact e
          have hxh := Lib.hid hx
          have hph := Lib.hid hp
          have hx1 : ((tg.toNat : Int) != 1) = false := by subst ht1; rfl
          have hl1 : decide ((l.length : Int) < 32) = false := by simp; omega
          have hl2 : ¬ (l.length : Int) < 32 := by omega
          obtain ⟨A3, hs3, hs4⟩ := sl_from SBc A2 l.length c2 (l.length - 32) (32 : Int) (by omega) (by omega) (by simp) hc2
          rw [show ((32 : Int)).toNat = 32 from rfl] at hs3 hs4
          have hB3f := Lib.hid (fun V (hb : Bs V A2 l c2) => show Bs V A3 (l.drop 32) (c2 - 32) from ⟨by
            have := hs4 V V.heap.size (bytesV l) (by rw [bytesV_length, Nat.mul_one]) hb.rd
            rwa [Nat.mul_one, show (bytesV l).drop 32 = bytesV (l.drop 32) by simp [bytesV, List.map_drop]] at this, by rw [List.length_drop]; omega, by have := hb.mx; omega⟩)
          have kM0 := rdr_mark K w0 kA kc key last v recs p w2 hRd.out (hTh.out.step hRd.out.bel) A3 (l.drop 32) (c2 - 32) (hB3f.out w2 hXb.out)
          rw [List.length_drop] at kM0
          have hml := mark_len K key (last ++ l.drop 32)
          obtain ⟨m, hm⟩ : ∃ m, markL K key (last ++ l.drop 32) = m := ⟨_, rfl⟩
          rw [hm] at kM0 hml
          have hmh := Lib.hid hm
          have kM := Lib.hid kM0
          have hcz := dgA_cells []
          have hcm := dgA_cells m
          clear hx hp kM0 hm ht1 hs4
          go_upto_region 7 with (fail)
          go_wp2_with fail
          refine kM.out.mono ?_
          rintro e w3 ⟨rfl, hb3⟩
          have hb4 := below_step (below_alloc w3 (Obj.cells (dgA m) 57)) hb3 (Nat.le_refl _)
          replace hRd := Lib.hid (hRd.out.step hb4)
          replace hSz := Lib.hid (Nat.le_trans hSz.out hb4.size)
          have hgl2 := Lib.hid (Nat.lt_of_lt_of_le hxc.out.2.2 hb3.size)
          replace hXb := Lib.hid (hXb.out.step hb4)
          replace hxc := Lib.hid (show (w3.alloc (Obj.cells (dgA m) 57)).cell? ⟨g5, 0, none⟩ = _ ∧ (w3.alloc (Obj.cells (dgA m) 57)).cell? ⟨g5, 1, none⟩ = _ ∧ g5 < _ from ⟨(hb4.cell (p := ⟨g5, 0, none⟩) hxc.out.2.2).trans x0, (hb4.cell (p := ⟨g5, 1, none⟩) hxc.out.2.2).trans x1, Nat.lt_of_lt_of_le hxc.out.2.2 hb4.size⟩)
          have hW := Lib.hid (show Row (w3.alloc (Obj.cells (dgA m) 57)) w3.heap.size 32 ∧ rowAt (w3.alloc (Obj.cells (dgA m) 57)) w3.heap.size = dgA m from ⟨(row_new rfl).2 hcm.1, rowAt_new rfl⟩)
          clear kM hb3 hb4 x0 x1 hx1 hl1 hl2
          dsimp only
          go_upto_region 8 with (fail)
          generalize w3.alloc _ = w4 at *
          have hgl3 := Lib.hid (show g5 < w3.heap.size ∧ w3.heap.size < w4.heap.size from ⟨hgl2.out, hW.out.1.lt⟩)
          clear hgl2
          generalize w3.heap.size = g8 at *
          obtain ⟨bq, hbq⟩ : ∃ b, decide (m = l.take 32) = b := ⟨_, rfl⟩
          have kS := Lib.hid (fun V (hb : Below w4.heap.size w4 V) => by
            have h9 := mac_Same (some ⟨g8, 0, none⟩) m 32 A2 (l.take 32) c2 V ((rd_of_row hml hW.out.1 hW.out.2).step hb) ⟨rd_take (hXb.out.step hb).rd, by rw [List.length_take]; omega, (hXb.out.step hb).mx⟩
            rwa [hml, List.length_take, Nat.min_eq_left hl32, hbq] at h9)
          have hs5 := fun V => sl_to (P := Tryd.prog) SBc A2 l.length c2 32 (32 : Int) (by omega) (by omega) rfl V
          have hbh := Lib.hid hbq
          clear hbq
          generalize ha0 : Act.mk _ _ = a0
          have e5 : a0.tmps[5]?.getD undef = .pointer (some ⟨g5, 0, none⟩) := by rw [← ha0]; rfl
          have e8 : a0.tmps[8]?.getD undef = .pointer (some ⟨g8, 0, none⟩) := by rw [← ha0]; rfl
          have hz0 : a0.tmps.size = 75 := by rw [← ha0]; rfl
          have hha0 := Lib.hid ha0
          clear ha0
          refine wp_region_calm (fun jx_ => match jx_ with | 0 => SRel.is (.slice (some ⟨g8, 0, none⟩) 32 32) | 1 => SRel.is (.pointer (some ⟨g5, 1, none⟩)) | 2 => SRel.is (.slice A2 l.length c2) | 3 => SRel.is (.slice A2 32 c2) | 4 => SRel.is (.bool bq) | 5 => SRel.is (.bool (!bq)) | _ => SRel.any) (by kernel_rfl) (by kernel_rfl) (by kernel_rfl) (slotsOk_of hz0 (by kernel_rfl)) ⟨?_, ?_, ?_, ?_, ?_, ?_, trivial⟩ ?_
          · refine calm_step rfl fun a ω κ hb hu hc hK => ?_
            have h8 : a.tmps[8]?.getD undef = .pointer (some ⟨g8, 0, none⟩) := (hu 8 rfl).trans e8
            have hk := Lib.hid (fun w1 (h : Below ω.heap.size ω w1) => hK (.slice (some ⟨g8, 0, none⟩) 32 32) w1 rfl h)
            clear hK hu hc
            go_simp
            exact hk.out _ (Below.refl _ _)
          · refine calm_step rfl fun a ω κ hb hu hc hK => ?_
            have h5 : a.tmps[5]?.getD undef = .pointer (some ⟨g5, 0, none⟩) := (hu 5 rfl).trans e5
            have hk := Lib.hid (fun w1 (h : Below ω.heap.size ω w1) => hK (.pointer (some ⟨g5, 1, none⟩)) w1 rfl h)
            clear hK hu hc
            go_simp
            exact hk.out _ (Below.refl _ _)
          · refine calm_step rfl fun a ω κ hb hu hc hK => ?_
            have h45 : a.tmps[45]?.getD undef = .pointer (some ⟨g5, 1, none⟩) := hc 1 45 rfl rfl
            have hk := Lib.hid (fun w1 (h : Below ω.heap.size ω w1) => hK (.slice A2 l.length c2) w1 rfl h)
            clear hK hu hc
            have x1 := (hb.cell (p := ⟨g5, 1, none⟩) hxc.out.2.2).trans hxc.out.2.1
            go_simp
            exact hk.out _ (Below.refl _ _)
          · refine calm_step rfl fun a ω κ hb hu hc hK => ?_
            have h46 : a.tmps[46]?.getD undef = .slice A2 l.length c2 := hc 2 46 rfl rfl
            have hk := Lib.hid (fun w1 (h : Below ω.heap.size ω w1) => hK (.slice A2 32 c2) w1 rfl h)
            clear hK hu hc
            go_simp
            exact hk.out _ (Below.refl _ _)
          · refine calm_step rfl fun a ω κ hb hu hc hK => ?_
            have h44 : a.tmps[44]?.getD undef = .slice (some ⟨g8, 0, none⟩) 32 32 := hc 0 44 rfl rfl
            have h47 : a.tmps[47]?.getD undef = .slice A2 32 c2 := hc 3 47 rfl rfl
            have hk := Lib.hid (fun w1 (h : Below ω.heap.size ω w1) => hK (.bool bq) w1 rfl h)
            clear hK hu hc
            go_simp
            go_at_call 58
            refine (kS.out ω hb).mono ?_
            rintro e w1 ⟨rfl, hb1⟩
            exact hk.out _ hb1
          · refine calm_step rfl fun a ω κ hb hu hc hK => ?_
            have h48 : a.tmps[48]?.getD undef = .bool bq := hc 4 48 rfl rfl
            have hk := Lib.hid (fun w1 (h : Below ω.heap.size ω w1) => hK (.bool (!bq)) w1 rfl h)
            clear hK hu hc
            go_simp
            exact hk.out _ (Below.refl _ _)
          · intro a1 w1 hb1 hu1 hsz1 hdf1 hc1
            have ha0 := hha0.out
            subst ha0
            have he := act_patch (n := 75) [false, false, false, false, false, false, false, false, false, false, false, false, false, false, false, false, false, false, false, false, false, false, false, false, false, false, false, false, false, false, false, false, false, false, false, false, false, false, false, false, false, false, false, false, true, true, true, true, true, true, false, false, false, false, false, false, false, false, false, false, false, false, false, false, false, false, false, false, false, false, false, false, false, false, false] rfl (by kernel_rfl) hu1 hsz1 hdf1
            simp only [patch, cond_true, cond_false, Nat.reduceAdd] at he
            have hkn49 : a1.tmps[49]?.getD undef = .bool (!bq) := hc1 5 49 rfl
            have hrw := row_below hW.out.1 hb1 hW.out.1.lt
            have hre := (rowAt_below hb1 hW.out.1.lt).trans hW.out.2
            replace hW := Lib.hid (And.intro hrw hre)
            replace hRd := Lib.hid (hRd.out.step hb1)
            replace hSz := Lib.hid (Nat.le_trans hSz.out hb1.size)
            replace hXb := Lib.hid (hXb.out.step hb1)
            have hx5 := (hb1.cell (p := ⟨g5, 1, none⟩) hxc.out.2.2).trans hxc.out.2.1
            replace hxc := Lib.hid (And.intro hx5 (Nat.lt_of_lt_of_le hxc.out.2.2 hb1.size))
            clear hrw hre hx5 kS hgl3
            clear hb1 hu1 hsz1 hdf1 hc1 hz0 hha0 e5 e8
            rw [he]
            clear he
            rw [hkn49]
            clear hkn49
            generalize a1.tmps[44]?.getD undef = x44 at *
            generalize a1.tmps[45]?.getD undef = x45 at *
            generalize a1.tmps[46]?.getD undef = x46 at *
            generalize a1.tmps[47]?.getD undef = x47 at *
            generalize a1.tmps[48]?.getD undef = x48 at *
            cases bq
            · have hE := Lib.hid (show tapeL K key t (t.length + 1) 0 z32 [] = (recs.map Rc.body, p, 5, last) by rw [hRh.out, ← hF.out.2]; exact tapeL_sum hF.out.1 hph.out hFh.out hxh.out (by rw [hmh.out]; intro e; have := hbh.out; rw [e] at this; simp at this))
              go_wp2_with fail
              go_ret
              exact rdr_end hE.out rfl hRd.out hO.out hSz.out
            · have hme : l.take 32 = m := (of_decide_eq_true hbh.out).symm
              have hmeq : l.take 32 = markL K key (last ++ l.drop 32) := by rw [hmh.out]; exact hme
              obtain ⟨f', hf', hFn⟩ := tapeL_next hF.out.1 hph.out hFh.out hxh.out hmeq (recs := recs.map Rc.body)
              have hON := hO.out.next hph.out hFh.out hxh.out hmeq
              rw [hmh.out] at hFn hON
              obtain ⟨q, hq⟩ : ∃ q, l.drop 32 = q := ⟨_, rfl⟩
              have hql : q.length = l.length - 32 := by rw [← hq, List.length_drop]
              rw [hq] at hFn hON hB3f
              rw [← hql] at hs3
              have hNx := Lib.hid (And.intro hf' (And.intro (hFn.symm.trans hF.out.2) hON))
              have hqm := Lib.hid (show q.length ≤ 140737488351232 by have := (first_enc hFh.out (fun e => by have h8 := congrArg List.length e; rw [List.length_drop] at h8; simp at h8; have := hph.out; omega)).2.2.1; omega)
              have hcnt := Lib.hid (show recs.length * 34 ≤ 140737488351232 by have := hO.out.cnt; have := hO.out.le; rw [List.length_map] at *; omega)
              have hnp := Lib.hid (show p + n ≤ t.length from hON.le)
              have hn1 := Lib.hid (show 0 < n by have h8 := first_enc hFh.out (fun e => by have h8 := congrArg List.length e; rw [List.length_drop] at h8; simp at h8; have := hph.out; omega); have h9 := (tagB_len (t := tg) (l := l)).1; have := h8.2.2.2; omega)
              clear hme hmeq hf' hFn hON hq hql hbh hxh hmh hFh hF hO
              have hr1 := hRd.out.row
              have hr2 := hRd.out.eq
              have hr3 := hW.out.1
              have hr4 := hW.out.2
              go_upto_region 11 with (fail)
              have hRd2 := hRd.out.setL (last' := m) hml
              have hx5 := (World.cell?_of_block (a := ⟨g5, 1, none⟩) (setRow_other w1 w0.heap.size g5 (rdrA (.slice kA key.length kc) m v p) (by have := hgl.out; omega))).trans hxc.out.1
              have hXb2 := Lib.hid (show Bs (w1.setRow w0.heap.size (rdrA (.slice kA key.length kc) m v p)) A2 l c2 from ⟨rd_kept hXb.out.rd (fun a ha => setRow_other w1 w0.heap.size _ _ (hA2.out a ha)) (by simp [World.setRow]), hXb.out.le, hXb.out.mx⟩)
              have hB3 := Lib.hid (hB3f.out _ hXb2.out)
              have hxc2 := Lib.hid (And.intro hx5 (show g5 < (w1.setRow w0.heap.size (rdrA (.slice kA key.length kc) m v p)).heap.size from by rw [size_setRowT]; exact hxc.out.2))
              have hRe := Lib.hid hRd2
              have hSz2 := Lib.hid (show w.heap.size ≤ (w1.setRow w0.heap.size (rdrA (.slice kA key.length kc) m v p)).heap.size from by rw [size_setRowT]; exact hSz.out)
              clear hr1 hr2 hr3 hr4 hx5 hRd2 hXb hXb2 hB3f hxc hRd hSz hW hcz hcm hs5
              have hRd := hRe
              have hxc := hxc2
              have hSz := hSz2
              clear hRe hxc2 hSz2
              generalize w1.setRow _ _ = w5 at *
              have hgl5 := Lib.hid hRd.out.row.lt
              generalize ha0 : Act.mk _ _ = a0
              have e0 : a0.tmps[0]?.getD undef = .pointer (some ⟨w0.heap.size, 0, none⟩) := by rw [← ha0]; rfl
              have e5 : a0.tmps[5]?.getD undef = .pointer (some ⟨g5, 0, none⟩) := by rw [← ha0]; rfl
              have hz0 : a0.tmps.size = 75 := by rw [← ha0]; rfl
              have hha0 := Lib.hid ha0
              clear ha0
              refine wp_region_write (fun jx_ => match jx_ with | 0 => some (.pointer (some ⟨w0.heap.size, 0, none⟩)) | 1 => some (.pointer (some ⟨w0.heap.size, 0, none⟩)) | 2 => some (.pointer (some ⟨w0.heap.size, 0, none⟩)) | 3 => some (.pointer (some ⟨w0.heap.size, 33, none⟩)) | 4 => some (v) | 5 => some (.pointer (some ⟨g5, 1, none⟩)) | 6 => some (.slice A2 l.length c2) | 7 => some (.slice A3 q.length (c2 - 32)) | 11 => some (.pointer (some ⟨w0.heap.size, 0, none⟩)) | 12 => some (.pointer (some ⟨w0.heap.size, 33, none⟩)) | _ => none) (fun jx_ => match jx_ with | 8 => SRel.cl w5.heap.size q | 9 => SRel.cl1 w5.heap.size q | 10 => SRel.any | 13 => SRel.any | _ => SRel.any) 10 13 (TpPhi w0 kA kc key m v recs q p w5.heap.size) (by kernel_rfl) (by kernel_rfl) (by kernel_rfl) (slotsOk_of hz0 (by kernel_rfl)) (by kernel_rfl) (by decide) rfl rfl (of_decide_eq_true (by kernel_rfl)) ⟨?_, ?_, ?_, ?_, ?_, ?_, ?_, ?_, ?_, ?_, ?_, ?_, ?_, ?_, trivial⟩
              · rw [if_neg (by decide), if_neg (by decide), if_neg (by rw [show pathB _ _ _ _ = false from by kernel_rfl]; decide)]
                refine pure_of rfl rfl fun a ω κ hu hc hK => ?_
                have h0 : a.tmps[0]?.getD undef = .pointer (some ⟨w0.heap.size, 0, none⟩) := (hu 0 rfl).trans e0
                have hk := Lib.hid hK
                clear hK hu hc
                go_simp
                exact hk.out
              · rw [if_neg (by decide), if_neg (by decide), if_pos (by kernel_rfl)]
                refine calmT_step rfl fun a ω κ hb hu hc hK => ?_
                have h0 : a.tmps[0]?.getD undef = .pointer (some ⟨w0.heap.size, 0, none⟩) := (hu 0 rfl).trans e0
                have hk := Lib.hid (fun w1 (h : Below ω.heap.size ω w1) => hK (.pointer (some ⟨w0.heap.size, 0, none⟩)) w1 rfl h)
                clear hK hu hc
                go_simp
                exact hk.out _ (Below.refl _ _)
              · rw [if_neg (by decide), if_neg (by decide), if_pos (by kernel_rfl)]
                refine calmT_step rfl fun a ω κ hb hu hc hK => ?_
                have h55 : a.tmps[55]?.getD undef = .pointer (some ⟨w0.heap.size, 0, none⟩) := hc 1 55 rfl rfl
                have hk := Lib.hid (fun w1 (h : Below ω.heap.size ω w1) => hK (.pointer (some ⟨w0.heap.size, 0, none⟩)) w1 rfl h)
                clear hK hu hc
                go_simp
                exact hk.out _ (Below.refl _ _)
              · rw [if_neg (by decide), if_neg (by decide), if_pos (by kernel_rfl)]
                refine calmT_step rfl fun a ω κ hb hu hc hK => ?_
                have h56 : a.tmps[56]?.getD undef = .pointer (some ⟨w0.heap.size, 0, none⟩) := hc 2 56 rfl rfl
                have hk := Lib.hid (fun w1 (h : Below ω.heap.size ω w1) => hK (.pointer (some ⟨w0.heap.size, 33, none⟩)) w1 rfl h)
                clear hK hu hc
                go_simp
                exact hk.out _ (Below.refl _ _)
              · rw [if_neg (by decide), if_neg (by decide), if_pos (by kernel_rfl)]
                refine calmT_step rfl fun a ω κ hb hu hc hK => ?_
                have h57 : a.tmps[57]?.getD undef = .pointer (some ⟨w0.heap.size, 33, none⟩) := hc 3 57 rfl rfl
                have hk := Lib.hid (fun w1 (h : Below ω.heap.size ω w1) => hK (v) w1 rfl h)
                clear hK hu hc
                have c33 := (hRd.out.step hb).c33
                go_simp
                exact hk.out _ (Below.refl _ _)
              · rw [if_neg (by decide), if_neg (by decide), if_pos (by kernel_rfl)]
                refine calmT_step rfl fun a ω κ hb hu hc hK => ?_
                have h5 : a.tmps[5]?.getD undef = .pointer (some ⟨g5, 0, none⟩) := (hu 5 rfl).trans e5
                have hk := Lib.hid (fun w1 (h : Below ω.heap.size ω w1) => hK (.pointer (some ⟨g5, 1, none⟩)) w1 rfl h)
                clear hK hu hc
                go_simp
                exact hk.out _ (Below.refl _ _)
              · rw [if_neg (by decide), if_neg (by decide), if_pos (by kernel_rfl)]
                refine calmT_step rfl fun a ω κ hb hu hc hK => ?_
                have h59 : a.tmps[59]?.getD undef = .pointer (some ⟨g5, 1, none⟩) := hc 5 59 rfl rfl
                have hk := Lib.hid (fun w1 (h : Below ω.heap.size ω w1) => hK (.slice A2 l.length c2) w1 rfl h)
                clear hK hu hc
                have x1 := (hb.cell (p := ⟨g5, 1, none⟩) hxc.out.2).trans hxc.out.1
                go_simp
                exact hk.out _ (Below.refl _ _)
              · rw [if_neg (by decide), if_neg (by decide), if_pos (by kernel_rfl)]
                refine calmT_step rfl fun a ω κ hb hu hc hK => ?_
                have h60 : a.tmps[60]?.getD undef = .slice A2 l.length c2 := hc 6 60 rfl rfl
                have hk := Lib.hid (fun w1 (h : Below ω.heap.size ω w1) => hK (.slice A3 q.length (c2 - 32)) w1 rfl h)
                clear hK hu hc
                go_simp
                exact hk.out _ (Below.refl _ _)
              · rw [if_neg (by decide), if_neg (by decide), if_pos (by kernel_rfl)]
                refine calmT_step rfl fun a ω κ hb hu hc hK => ?_
                have h61 : a.tmps[61]?.getD undef = .slice A3 q.length (c2 - 32) := hc 7 61 rfl rfl
                have hk := Lib.hid (fun v w1 (hv : (SRel.cl w5.heap.size q).p v w1) (h : Below ω.heap.size ω w1) => hK v w1 hv h)
                clear hK hu hc
                go_simp
                go_at_call 30
                refine (clone_own A3 q q.length (c2 - 32) ω (hB3.out.step hb) rfl hqm.out).mono ?_
                rintro e w1 ⟨A9, c9, rfl, hB9, hb9, ha9, -⟩
                exact hk.out _ _ ⟨A9, c9, rfl, hB9, fun a ha => ⟨Nat.le_trans hb.size (ha9 a ha).1, (ha9 a ha).2⟩⟩ hb9
              · rw [if_neg (by decide), if_neg (by decide), if_pos (by kernel_rfl)]
                refine calmT_step rfl fun a ω κ hb hu hc hK => ?_
                have h62 : (SRel.cl w5.heap.size q).p (a.tmps[62]?.getD undef) ω := hc 8 62 rfl rfl
                have hk := Lib.hid (fun v w1 (hv : (SRel.cl1 w5.heap.size q).p v w1) (h : Below ω.heap.size ω w1) => hK v w1 hv h)
                clear hK hu hc
                obtain ⟨A9, c9, e9, hB9, ha9⟩ := h62
                go_simp
                exact hk.out _ _ (SRel.cl1_new hB9 ha9) (below_alloc _ _)
              · rw [if_pos rfl]
                refine write_of rfl fun a ω κ hb hu hc hK => ?_
                have h58 : a.tmps[58]?.getD undef = v := hc 4 58 rfl rfl
                have h63 : (SRel.cl1 w5.heap.size q).p (a.tmps[63]?.getD undef) ω := hc 9 63 rfl rfl
                have hk := Lib.hid (fun vz wz (hvz : (TpPhi w0 kA kc key m v recs q p w5.heap.size) vz wz) => hK vz wz hvz)
                clear hK hu hc
                obtain ⟨g9, A9, c9, e9, hc9, hg9, hB9, ha9⟩ := h63
                have hRdω := hRd.out.step hb
                refine wp_ownK (k := RcK) (B := w0.heap.size + 1) (x := ⟨A9, c9, q⟩) (.tmp 58) (.tmp 63) 23 rfl SRc (eval_tmp h58) hRdω.own (Nat.lt_of_lt_of_le hRdω.row.lt (Nat.le_refl _)) (eval_tmp e9) (rd_cell hc9 hg9) rfl (by simp [RcK, Rc.cell, Value.oneCell']) ⟨hB9.rd, hB9.le, by have := hB9.mx; unfold maxLen; exact this⟩ (fun a ha => ⟨Nat.lt_of_lt_of_le hgl5.out (ha9 a ha).1, (ha9 a ha).2, fun e => by have := (hRd.out.own.lt e.symm).2; have := (ha9 a ha).1; omega⟩) (by have := hcnt.out; unfold maxLen; omega) (by have := hcnt.out; omega) fun v' w' hO' hg' hat' => ?_
                exact hk.out _ _ (TpPhi.of hRdω hO' hg' rfl hb.size)
              · rw [if_neg (by decide), if_neg (by decide), if_neg (by rw [show pathB _ _ _ _ = false from by kernel_rfl]; decide)]
                refine pure_of rfl rfl fun a ω κ hu hc hK => ?_
                have h54 : a.tmps[54]?.getD undef = .pointer (some ⟨w0.heap.size, 0, none⟩) := hc 0 54 rfl rfl
                have hk := Lib.hid hK
                clear hK hu hc
                go_simp
                exact hk.out
              · rw [if_neg (by decide), if_neg (by decide), if_neg (by rw [show pathB _ _ _ _ = false from by kernel_rfl]; decide)]
                refine pure_of rfl rfl fun a ω κ hu hc hK => ?_
                have h65 : a.tmps[65]?.getD undef = .pointer (some ⟨w0.heap.size, 0, none⟩) := hc 11 65 rfl rfl
                have hk := Lib.hid hK
                clear hK hu hc
                go_simp
                exact hk.out
              · rw [if_neg (by decide), if_pos rfl]
                refine end_of rfl fun aa ω hu hsz hdf hc hf => ?_
                have h54 : aa.tmps[54]?.getD undef = .pointer (some ⟨w0.heap.size, 0, none⟩) := hc 0 54 _ (by decide) rfl rfl
                have h55 : aa.tmps[55]?.getD undef = .pointer (some ⟨w0.heap.size, 0, none⟩) := hc 1 55 _ (by decide) rfl rfl
                have h56 : aa.tmps[56]?.getD undef = .pointer (some ⟨w0.heap.size, 0, none⟩) := hc 2 56 _ (by decide) rfl rfl
                have h57 : aa.tmps[57]?.getD undef = .pointer (some ⟨w0.heap.size, 33, none⟩) := hc 3 57 _ (by decide) rfl rfl
                have h58 : aa.tmps[58]?.getD undef = v := hc 4 58 _ (by decide) rfl rfl
                have h59 : aa.tmps[59]?.getD undef = .pointer (some ⟨g5, 1, none⟩) := hc 5 59 _ (by decide) rfl rfl
                have h60 : aa.tmps[60]?.getD undef = .slice A2 l.length c2 := hc 6 60 _ (by decide) rfl rfl
                have h61 : aa.tmps[61]?.getD undef = .slice A3 q.length (c2 - 32) := hc 7 61 _ (by decide) rfl rfl
                have h65 : aa.tmps[65]?.getD undef = .pointer (some ⟨w0.heap.size, 0, none⟩) := hc 11 65 _ (by decide) rfl rfl
                have h66 : aa.tmps[66]?.getD undef = .pointer (some ⟨w0.heap.size, 33, none⟩) := hc 12 66 _ (by decide) rfl rfl
                have hF : (TpPhi w0 kA kc key m v recs q p w5.heap.size) (aa.tmps[64]?.getD undef) ω := hf 64 rfl
                have hHz := Lib.hid (And.intro hu (And.intro hsz hdf))
                clear hc hf hu hsz hdf hz0
                obtain ⟨A8, n8, c8, rc, e8, hrc, hc8, hf8, hs8, hR8⟩ := hF
                have hHR := Lib.hid hR8
                have hHs := Lib.hid (Nat.le_trans hSz.out (show w5.heap.size ≤ ω.heap.size from hs8))
                have hHrc := Lib.hid hrc
                clear hR8 hs8 hrc
                go_simp
                have ha0 := hha0.out
                subst ha0
                have he := act_patchT (n := 75) 13 [false, false, false, false, false, false, false, false, false, false, false, false, false, false, false, false, false, false, false, false, false, false, false, false, false, false, false, false, false, false, false, false, false, false, false, false, false, false, false, false, false, false, false, false, false, false, false, false, false, false, false, false, false, false, true, true, true, true, true, true, true, true, true, true, true, true, true, false, false, false, false, false, false, false, false] rfl (by kernel_rfl) hHz.out.1 hHz.out.2.1 hHz.out.2.2
                simp only [patch, cond_true, cond_false, Nat.reduceAdd] at he
                clear hHz hha0 e0 e5
                rw [he]
                clear he
                generalize aa.tmps[54]?.getD undef = x54 at *
                generalize aa.tmps[55]?.getD undef = x55 at *
                generalize aa.tmps[56]?.getD undef = x56 at *
                generalize aa.tmps[57]?.getD undef = x57 at *
                generalize aa.tmps[58]?.getD undef = x58 at *
                generalize aa.tmps[59]?.getD undef = x59 at *
                generalize aa.tmps[60]?.getD undef = x60 at *
                generalize aa.tmps[61]?.getD undef = x61 at *
                generalize aa.tmps[62]?.getD undef = x62 at *
                generalize aa.tmps[63]?.getD undef = x63 at *
                generalize aa.tmps[64]?.getD undef = x64 at *
                generalize aa.tmps[65]?.getD undef = x65 at *
                generalize aa.tmps[66]?.getD undef = x66 at *
                go_upto_region 12 with (fail)
                replace hHs := Lib.hid (show w.heap.size ≤ (ω.setCell ⟨w0.heap.size, 33, none⟩ (.slice A8 n8 c8)).heap.size from by rw [World.size_setCell]; exact hHs.out)
                generalize ω.setCell _ _ = w6 at *
                have c34 := hHR.out.c34
                have f34 := hHR.out.row.frozen 34
                have hwr : IntKind.i64.wrap ((p : Int) + (n : Int)) = (p : Int) + (n : Int) := by rw [IntKind.wrap_i64]; have := hnp.out; omega
                obtain ⟨pn, hpn⟩ : ∃ x, p + n = x := ⟨_, rfl⟩
                have hpi : (p : Int) + (n : Int) = (pn : Int) := by omega
                rw [hpi] at hwr
                rw [hpn] at hNx hnp
                have hR7 := Lib.hid (hHR.out.setP pn)
                have hps := Lib.hid (show posR wr w0.heap.size = p from hpr.out)
                have hpl := Lib.hid (show pn ≤ t.length ∧ p < pn from ⟨hnp.out, by have := hn1.out; omega⟩)
                clear hnp hpn hHR hRd hB3 hxc hSz hgl5 hs3 hA2 hgl h54 h55 h56 h57
                go_wp2_with fail
                have hmp : List.map Rc.body (recs ++ [rc]) = List.map Rc.body recs ++ [q] := by rw [List.map_append, ← hHrc.out]; rfl
                refine ⟨⟨f', .slice A8 n8 c8, recs ++ [rc], pn, m, hR7, Lib.hid (by rw [hmp]; exact hNx.out.2.2), Lib.hid ⟨hNx.out.1, by rw [hmp]; exact hNx.out.2.1⟩, Lib.hid (by rw [World.size_setCell]; exact hHs.out)⟩, ?_⟩
                rw [hR7.out.pos, hps.out]
                have := hpl.out
                omega
      · have hz1 : (z != 0) = true := by simpa using hz
        have hE := Lib.hid (show tapeL K key t (t.length + 1) 0 z32 [] = (recs.map Rc.body, p, z, last) by rw [hRh.out, ← hF.out.2]; exact tapeL_err hF.out.1 hp hFh.out hz)
        have hbA := below_alloc w1 (Obj.cells #[Value.int IntKind.u8 (tg.toNat : Int), Value.slice A2 l.length c2] 71)
        replace hRd := Lib.hid (hRd.out.step hbA)
        replace hSz := Lib.hid (Nat.le_trans hSz.out hbA.size)
        clear hp hz hbA
        go_wp2_with fail
        go_ret
        exact rdr_end hE.out rfl hRd.out hO.out hSz.out
end Go.Proofs.YtdlmamnnamlleaaDoor
namespace Go.Proofs.YtdlmamnnamlleaaDoor
open Go.ChangeShapes Go.WideShapes Go.ChangeAt Go.RowKit
set_option maxHeartbeats 2000000
set_option maxRecDepth 100000
theorem own_baseT {w : World} {B B' : Nat} {e : TypeId} {v : Value} {n : Nat} {xs : List Value} (h : w.ownsRow B e 1 v n xs) (hB : B' ≤ B) : w.ownsRow B' e 1 v n xs := by
  refine ⟨h.1, ?_⟩
  rcases h.2 with h1 | ⟨g, cap, cur, h1, h2, h3⟩
  · exact .inl h1
  · exact .inr ⟨g, cap, cur, h1, Nat.le_trans hB h2, h3⟩
theorem Own.bsT {w0 w : World} {B : Nat} {v : Value} {l : List UInt8} {n : Nat} (h : Own w0 B 5 v (bytesV l) w) (hn : l.length = n) : ∃ A c, v = .slice A n c ∧ Bs w A l c := by
  obtain ⟨A, c, rfl, h1, h2⟩ := h.form
  rw [bytesV_length] at h1
  refine ⟨A, c, by rw [bytesV_length, hn], h.rd, h1, h2⟩
section
variable {P : Program} {ops : Array Oper} {rest : List Oper} {o : Oper} {a : Act} {w : World} {K : Act → World → Prop} {Q : Exit → Act → World → Prop} {t : TypeId} {i : Nat} {x : Operand} {u vx : Value}
theorem wpList_opT (hw : Region.wanted o (yielded ops a.tmps) = true) (h : ∀ K : Act → World → Prop, (∀ a' w', wpList P ops Q rest a' w' → K a' w') → Oper.wp P o a w K Q) : wpList P ops Q (o :: rest) a w :=
  wpList_step fun K hK => by rw [if_pos hw]; exact h K hK
theorem wp_bldOne (ho : o.op = .build t #[(i, x)]) (hx : a.eval x = vx) (hr : (Instr.build t #[(i, vx)]).run P w = .ok u w) (h : K (a.put o.dst u) w) : Oper.wp P o a w K Q := by
  subst hx
  obtain ⟨dst, op, tt, pos, af, gd⟩ := o
  subst ho
  unfold Oper.wp execOp
  simp only [List.map_toArray, List.map_cons, List.map_nil, Sem.run_bind, hr, Result.andThen_ok]
  exact h
/-- append of bytes onto an array's slice, which is full. -/
theorem wp_appFT {x y q : List UInt8} {gb ob : Nat} {A : Option Addr} {n c : Nat} (s t : Operand) (ho : o.op = Op.call { callee := Callee.builtin Builtin.append, args := #[s, t], argTypes := #[22, 22] })
    (hs : a.eval s = .slice (some ⟨gb, ob, none⟩) 32 32) (ht : a.eval t = .slice A n c) (hx : Bs w (some ⟨gb, ob, none⟩) x 32) (hy : Bs w A y c) (hxl : x.length = 32) (hyl : y.length = n) (hq : x ++ y = q) (hn : 32 + n ≤ 140737488355328)
    (h : ∀ A' c' w', Bs w' A' q c' → Below w.heap.size w w' → K (a.put o.dst (.slice A' q.length c')) w') : Oper.wp Tryd.prog o a w K Q := by
  subst hq
  obtain ⟨i, z, hi, hz, hsz, hb, hzs⟩ := SBc.info
  rcases Nat.eq_zero_or_pos n with rfl | hn0
  · have hy0 : y = [] := List.eq_nil_of_length_eq_zero hyl
    subst hy0
    have hrun : (Builtin.append_ #[22, 22] o.type #[.slice (some ⟨gb, ob, none⟩) 32 32, .slice A 0 c]).run Tryd.prog w = .ok (.slice (some ⟨gb, ob, none⟩) 32 32) w := by
      cases A with
      | none => simp [Builtin.append_, run_underlying SBc.under, sizeOf, typeInfo, hi, Builtin.lenOf, Builtin.firstCells, storeCells]
      | some ad => exact run_append_room_cells (P := Tryd.prog) w 22 o.type 5 i SBc.under hi gb ob 32 32 ad 0 c [] (by simp) (fun j u hj => by simp at hj) (fun u hu => by simp at hu) (by omega) (fun j hj => by simp at hj) (fun j hj => by simp at hj)
    unfold Oper.wp
    simp [execOp, ho, resolve, invoke, builtin, hs, ht, hrun, Result.andThen]
    have := h (some ⟨gb, ob, none⟩) 32 w (by rw [List.append_nil]; exact hx) (Below.refl _ _)
    rwa [List.append_nil, hxl] at this
  · obtain ⟨ad, rfl⟩ : ∃ ad, A = some ad := by
      cases A with
      | none =>
        obtain ⟨y0, ys, rfl⟩ := List.exists_cons_of_length_pos (l := y) (by omega)
        have := hy.rd.at_ (k := 0) (by simp [bytesV])
        obtain ⟨ad, e, -⟩ := this
        cases e
      | some ad => exact ⟨ad, rfl⟩
    obtain ⟨v', w', hrun, r1, r2⟩ := run_append_arg_grows (P := Tryd.prog) w 22 o.type 5 i z 1 1 SBc.under hi hz hsz hb hzs (by omega) ⟨gb, ob, none⟩ 32 32 (bytesV x) (by rw [bytesV_length]; omega) (fun j u hj => hx.rd.all hj) ad n c (bytesV y) (by rw [bytesV_length]; omega) (fun j u hj => hy.rd.all hj) (by omega) (by unfold maxLen; omega) (by omega)
    have hbw := (Below.refl _ w).grown r2 (Nat.le_refl _) (fun k hk => by cases hk)
    unfold Oper.wp
    simp [execOp, ho, resolve, invoke, builtin, hs, ht, hrun, Result.andThen]
    have hO : Own w w.heap.size 5 v' (bytesV (x ++ y)) w' := ⟨by rw [bytesV_append, List.length_append, bytesV_length, bytesV_length, hxl, hyl]; exact r1, hbw, hbw.size⟩
    obtain ⟨A', c', rfl, hB⟩ := hO.bsT rfl
    exact h A' c' w' hB hbw
end
attribute [local irreducible] arrV dgA sha macA macZ b64A rdrA tapeL
attribute [local go_sem ↓] load_o32 store_o32 store_rdp
attribute [local go_sem] isHead_mk isPart_mk offOf_mk blkOf_mk isAgg_mk cellsV_mk row_drew rowAt_drew row_new_cells row_old rowAt_new rowAt_old setRow_new zeroD bs_app rdrA_put
theorem RdrAt.made (kA : Option Addr) (kc : Nat) (key : List UInt8) (w : World) (hk : Bs w kA key kc) : RdrAt w kA kc key z32 (.slice none 0 0) [] 0 (w.alloc (Obj.cells (rdrA (.slice kA key.length kc) z32 (.slice none 0 0) (0 : Int)) 68)) :=
  ⟨(row_new rfl).2 (rdrA_cells rfl rfl _ _).1, rowAt_new rfl, hk, rfl, OwnK.start _ _ _, below_alloc _ _⟩
theorem tape_Read (K : Nat → W32) (A : Option Addr) (t : List UInt8) (c : Nat) (kA : Option Addr) (key : List UInt8) (kc : Nat) (w : World) (hT : Tabs K w) (ht : Bs w A t c) (htl : t.length ≤ 140737488351232) (hk : Bs w kA key kc) :
    Calls Tryd.prog 7 #[.slice A t.length c, .slice kA key.length kc] w fun e w' => ∃ (v : Value) (recs : List Rc) (p : Nat) (z : Int) (last : List UInt8), e = .returned (.tuple #[v, .int .i64 (p : Nat), .int .i64 z]) ∧ tapeL K key t (t.length + 1) 0 z32 [] = (recs.map Rc.body, p, z, last) ∧ OwnK RcK (w.heap.size + 1) w' v recs ∧ TpOk K key t p last (recs.map Rc.body) ∧ Below w.heap.size w w' := by
  have hcr := rdrA_cells (kv := .slice kA key.length kc) (v := .slice none 0 0) rfl rfl z32 0
  have hbl := Lib.hid (fun V => build_rdr kA key.length kc V)
  have hR0 := Lib.hid (RdrAt.made kA kc key w hk)
  have kR := Lib.hid (rdr_all K w kA kc key _ hR0.out hT A t c ht htl)
  clear hT ht hk hR0
  go_enter Tryd.func7, Tryd.ntmps7
  go_upto_region 2 with (refine wpList_opT (by go_simp) (fun K9 hK => wp_bldOne rfl (vx := .slice kA key.length kc) (by go_simp) (hbl.out _) (hK _ _ ?_)))
  go_wp2_with fail
  refine kR.out.mono ?_
  rintro e w1 ⟨v, recs, p, z, last, rfl, hL, hR, hO, -⟩
  have c33 := hR.c33
  have c34 := hR.c34
  have hF := Lib.hid (And.intro hL (And.intro hR hO))
  clear hL hR hO kR hbl
  dsimp only
  go_upto_region 3 with (fail)
  go_region
  go_wp2_with fail
  go_returns
  exact ⟨v, recs, p, z, last, rfl, hF.out.1, hF.out.2.1.own.step (Below.refl _ _).drew, hF.out.2.2, hF.out.2.1.bel.drew⟩
/-- What a longer tape is, and what was wrong. -/
def lonL (K : Nat → W32) (key t rec : List UInt8) : List UInt8 × Int :=
  if 4064 < rec.length then ([], 2)
  else if 65536 < (t.take (tapeL K key t (t.length + 1) 0 z32 []).2.1 ++ tagB 1 (markL K key ((tapeL K key t (t.length + 1) 0 z32 []).2.2.2 ++ rec) ++ rec)).length then ([], 2)
  else (t.take (tapeL K key t (t.length + 1) 0 z32 []).2.1 ++ tagB 1 (markL K key ((tapeL K key t (t.length + 1) 0 z32 []).2.2.2 ++ rec) ++ rec), 0)
theorem lonL_large {K : Nat → W32} {key t rec : List UInt8} (h : 4064 < rec.length) : lonL K key t rec = ([], 2) := by unfold lonL; rw [if_pos h]
theorem lonL_of {K : Nat → W32} {key t rec last b : List UInt8} {recs : List (List UInt8)} {p : Nat} {z : Int} (h : ¬ 4064 < rec.length) (hT : tapeL K key t (t.length + 1) 0 z32 [] = (recs, p, z, last)) (hb : tagB 1 (markL K key (last ++ rec) ++ rec) = b) :
    lonL K key t rec = if 65536 < (t.take p ++ b).length then ([], 2) else (t.take p ++ b, 0) := by
  unfold lonL; rw [if_neg h, hT, hb]
/-- How a function that makes a longer tape ends. -/
def LonR (K : Nat → W32) (key t rec : List UInt8) (w : World) (e : Ending) (w' : World) : Prop :=
  ∃ A c, e = .returned (.tuple #[.slice A (lonL K key t rec).1.length c, .int .i64 (lonL K key t rec).2]) ∧ Bs w' A (lonL K key t rec).1 c ∧ Below w.heap.size w w'
theorem lonR_nil {K : Nat → W32} {key t rec : List UInt8} {w w' : World} (h : lonL K key t rec = ([], 2)) (hb : Below w.heap.size w w') : LonR K key t rec w (.returned (.tuple #[.slice none 0 0, .int .i64 2])) w' :=
  ⟨none, 0, by rw [h]; rfl, by rw [h]; exact ⟨Rd.nil, Nat.le_refl _, by omega⟩, hb⟩
theorem tape_Append (K : Nat → W32) (A : Option Addr) (t : List UInt8) (c : Nat) (kA : Option Addr) (key : List UInt8) (kc : Nat) (rA : Option Addr) (rec : List UInt8) (rc : Nat) (w : World) (hT : Tabs K w) (ht : Bs w A t c) (htl : t.length ≤ 140737488351232) (hk : Bs w kA key kc) (hr : Bs w rA rec rc) :
    Calls Tryd.prog 9 #[.slice A t.length c, .slice kA key.length kc, .slice rA rec.length rc] w (LonR K key t rec w) := by
  by_cases h4 : 4064 < rec.length
  · have hE := Lib.hid (lonL_large (K := K) (key := key) (t := t) h4)
    have d1 : decide ((rec.length : Int) > 4064) = true := by simp; omega
    have d2 : (4064 : Int) < (rec.length : Int) := by omega
    clear hT ht hk hr h4
    go_enter Tryd.func9, Tryd.ntmps9
    go_wp2_with fail
    go_ret2
    exact lonR_nil hE.out (Below.refl _ _)
  · have d1 : decide ((rec.length : Int) > 4064) = false := by simp; omega
    have d2 : ¬ (4064 : Int) < (rec.length : Int) := by omega
    have h4h := Lib.hid h4
    have hcr := rdrA_cells (kv := .slice kA key.length kc) (v := .slice none 0 0) rfl rfl z32 0
    have hbl := Lib.hid (fun V => build_rdr kA key.length kc V)
    have hR0 := Lib.hid (RdrAt.made kA kc key w hk)
    have kR := Lib.hid (rdr_all K w kA kc key _ hR0.out hT A t c ht htl)
    have hTh := Lib.hid hT
    have hth := Lib.hid ht
    have hrh := Lib.hid hr
    clear hT ht hk hr hR0 h4
    go_enter Tryd.func9, Tryd.ntmps9
    go_upto_region 4 with (refine wpList_opT (by go_simp) (fun K9 hK => wp_bldOne rfl (vx := .slice kA key.length kc) (by go_simp) (hbl.out _) (hK _ _ ?_)))
    go_wp2_with fail
    refine kR.out.mono ?_
    rintro e w1 ⟨v, recs, p, z, last, rfl, hL, hR, hO, -⟩
    have hLh := Lib.hid hL
    have hRh := Lib.hid hR
    have hOh := Lib.hid hO
    have hml := mark_len K key (last ++ rec)
    have kM0 := rdr_mark K w kA kc key last v recs p w1 hR (hTh.out.step hR.bel) rA rec rc (hrh.out.step hR.bel)
    obtain ⟨m, hm⟩ : ∃ m, markL K key (last ++ rec) = m := ⟨_, rfl⟩
    rw [hm] at hml kM0
    have kM := Lib.hid kM0
    have hmh := Lib.hid hm
    have hcm := dgA_cells m
    have hcz := dgA_cells []
    clear hL hR hO kR hbl kM0 hm d1 d2 hcr
    dsimp only
    go_upto_region 5 with (fail)
    go_wp2_with fail
    refine kM.out.mono ?_
    rintro e w2 ⟨rfl, hb2⟩
    have hb3 := below_step (below_alloc w2 (Obj.cells (dgA m) 57)) hb2 (Nat.le_refl _)
    replace hRh := Lib.hid (hRh.out.step hb3)
    have hW := Lib.hid (show Bs (w2.alloc (Obj.cells (dgA m) 57)) (some ⟨w2.heap.size, 0, none⟩) m 32 from rd_of_row hml ((row_new rfl).2 hcm.1) (rowAt_new rfl))
    clear hb2 hb3 kM
    dsimp only
    go_upto_region 6 with (fail)
    generalize w2.alloc _ = w3 at *
    generalize w2.heap.size = g9 at *
    obtain ⟨q, hq⟩ : ∃ q, m ++ rec = q := ⟨_, rfl⟩
    have hqh := Lib.hid hq
    have hql := Lib.hid (show q.length ≤ 4096 ∧ 32 + rec.length ≤ 4096 by rw [← hq, List.length_append]; have := h4h.out; omega)
    have hr3 := Lib.hid (hrh.out.step hRh.out.bel)
    have hmlh := Lib.hid hml
    clear hq hml hcm hcz
    go_upto_region 7 with (first
      | (at_builtin; refine wpList_opT (by go_simp) (fun K9 hK => wp_appFT (.tmp 25) (.tmp 26) rfl (by go_simp) (by go_simp) hW.out hr3.out hmlh.out rfl hqh.out (by have := hql.out; omega) ?_); intro A4 c4 w4 hB4 hb4; refine hK _ _ ?_; have hB4h := Lib.hid hB4; replace hRh := Lib.hid (hRh.out.step hb4); clear hb4 hB4)
      | (go_at_call 29; refine (der_Write _ [⟨1, A4, c4, q⟩] 1 _ (Its.single (push_new _ _) (by simp) ((hB4h.out.rd.below (below_alloc _ _)).more (by simp)) ⟨hB4h.out.le, by have := hB4h.out.mx; unfold maxLen; exact this⟩) (by simp [maxLen])).mono ?_; rintro e w5 ⟨A5, m5, c5, rfl, hr5, hm5, hb5⟩; replace hRh := Lib.hid (hRh.out.step (below_step hb5 (below_alloc _ _) (Nat.le_refl _))); have hok : itemsOk [⟨1, A4, c4, q⟩] = true := (by simp only [itemsOk, bodiesOk, List.all_cons, List.all_nil, Bool.and_true]; simp; exact hql.out.1); unfold itemsErr; rw [if_pos hok] at hr5 hm5 ⊢; rw [enc_one] at hr5 hm5; have hr5h := Lib.hid hr5; have hm5h := Lib.hid hm5; clear hb5 hok hr5 hm5 hB4h))
    obtain ⟨b, hb⟩ : ∃ b, tagB 1 q = b := ⟨_, rfl⟩
    have hbl := Lib.hid (show b.length ≤ 4100 by rw [← hb]; have := (tagB_len (t := 1) (l := q)).2; have := hql.out.1; omega)
    have hr5h : Hid (Rd w5 w5.heap.size A5 (bytesV b)) := by rw [← hb]; exact hr5h
    have hm5h : Hid (m5 = b.length) := by rw [← hb]; exact hm5h
    have hE := Lib.hid (lonL_of h4h.out hLh.out (show tagB 1 (markL K key (last ++ rec) ++ rec) = b by rw [hmh.out, hqh.out]; exact hb))
    obtain rfl := hm5h.out
    have hp := Lib.hid hOh.out.le
    clear hb hm5h hqh hmh hLh hOh hW hr3 hmlh h4h
    have c34 := hRh.out.c34
    have hwr : IntKind.i64.wrap ((p : Int) + (b.length : Int)) = (p : Int) + (b.length : Int) := by rw [IntKind.wrap_i64]; have := hp.out; have := hbl.out; omega
    obtain ⟨pb, hpb⟩ : ∃ x, p + b.length = x := ⟨_, rfl⟩
    have hpi : (p : Int) + (b.length : Int) = (pb : Int) := by omega
    rw [hpi] at hwr
    have hll : (t.take p ++ b).length = pb := by rw [List.length_append, List.length_take, Nat.min_eq_left hp.out]; exact hpb
    have hE2 : lonL K key t rec = if 65536 < pb then ([], 2) else (t.take p ++ b, 0) := by rw [hE.out, hll]
    clear hE hpb
    by_cases h6 : 65536 < pb
    · have d1 : decide ((pb : Int) > 65536) = true := by simp; omega
      have d2 : (65536 : Int) < (pb : Int) := by omega
      have hE3 := Lib.hid (show lonL K key t rec = ([], 2) by rw [hE2, if_pos h6])
      clear hE2 h6 hll
      go_wp2_with fail
      go_ret2
      exact lonR_nil hE3.out hRh.out.bel
    · have d1 : decide ((pb : Int) > 65536) = false := by simp; omega
      have d2 : ¬ (65536 : Int) < (pb : Int) := by omega
      have hE3 := Lib.hid (show lonL K key t rec = (t.take p ++ b, 0) by rw [hE2, if_neg h6])
      have hpp : (p : Int) ≤ (t.length : Int) := by have := hp.out; omega
      have hp0 : (0 : Int) ≤ (p : Int) := by omega
      have htB := hth.out.step hRh.out.bel
      have hs1 := fun V => sl_to (P := Tryd.prog) SBc A t.length c p (p : Int) (by omega) (by have := htB.le; omega) (by simp) V
      have kC := Lib.hid (fun V (hb : Below w5.heap.size w5 V) => clone_own A (t.take p) p c V ⟨rd_take (htB.step hb).rd, by rw [List.length_take]; have := htB.le; omega, htB.mx⟩ (by rw [List.length_take, Nat.min_eq_left hp.out]) (by have := hp.out; omega))
      have htk := Lib.hid (show (t.take p).length = p by rw [List.length_take, Nat.min_eq_left hp.out])
      have hp6 := Lib.hid (show p + b.length ≤ 65536 by rw [List.length_append, htk.out] at hll; omega)
      clear hE2 h6 hll htB hth hp
      go_upto_region 9 with (fail)
      go_wp2_with fail
      refine (kC.out w5 (Below.refl _ _)).mono ?_
      rintro e w6 ⟨A6, c6, rfl, hB6, hb6, -, hO6⟩
      have hOw := Lib.hid (show Own w5 w5.heap.size 5 (.slice A6 p c6) (bytesV (t.take p)) w6 from ⟨by rw [bytesV_length, htk.out]; exact hO6, hb6, hb6.size⟩)
      have hr6 := Lib.hid (hr5h.out.below hb6)
      have hL6 := Lib.hid (below_step hb6 hRh.out.bel (Nat.le_refl _))
      clear hB6 hb6 hO6 hr5h kC hs1 c34 hwr
      go_wp2_with (at_builtin; refine wpList_own (o := ⟨some 49, _, _, _, _, _⟩) rfl (.tmp 47) (.tmp 48) 22 rfl SBc rfl hOw.out (news := bytesV b) (c := c5) (by rw [bytesV_length]; rfl) hr6.out (bytesV_oneCell b) (by rw [bytesV_length, bytesV_length, htk.out]; unfold maxLen; have := hp6.out; omega) (by rw [bytesV_length, bytesV_length, htk.out]; have := hp6.out; omega) ?_; intro v1 w7 hO7 hg7 hat7; have hO7h := Lib.hid (And.intro hO7 hg7); clear hO7 hg7 hat7)
      go_ret2
      obtain ⟨hO7, hg7⟩ := hO7h.out
      have hbw := below_step hO7.bel hRh.out.bel (Nat.le_refl _)
      rw [← bytesV_append] at hO7
      obtain ⟨A7, c7, rfl, hB7⟩ := hO7.bsT rfl
      exact ⟨A7, c7, by rw [hE3.out] <;> rfl, by rw [hE3.out]; exact hB7, hbw⟩
end Go.Proofs.YtdlmamnnamlleaaDoor
namespace Go.Proofs.YtdlmamnnamlleaaDoor
open Go

/-- The value of digits. -/
def val : List Nat → Nat
  | [] => 0
  | d :: l => d + 65536 * val l
/-- Digits that are digits. -/
def Sm (l : List Nat) : Prop := ∀ d ∈ l, d < 65536
/-- Digits of n. -/
structure Dv (l : List Nat) (n : Nat) : Prop where
  sm : Sm l
  val : val l = n
/-- Digits of n, none of them 0 at the end. -/
structure Dg (l : List Nat) (n : Nat) : Prop extends Dv l n where
  top : l.getLast? ≠ some 0

theorem Sm.nil : Sm [] := fun d h => by simp at h
theorem Sm.append {a b : List Nat} (ha : Sm a) (hb : Sm b) : Sm (a ++ b) := fun d h => by
  rcases List.mem_append.1 h with h | h
  · exact ha d h
  · exact hb d h
theorem Sm.one {d : Nat} (h : d < 65536) : Sm [d] := fun x hx => by simp at hx; omega
theorem Sm.take {a : List Nat} (ha : Sm a) (k : Nat) : Sm (a.take k) := fun d h => ha d (List.mem_of_mem_take h)
theorem Sm.drop {a : List Nat} (ha : Sm a) (k : Nat) : Sm (a.drop k) := fun d h => ha d (List.mem_of_mem_drop h)
theorem Sm.at_ {a : List Nat} (ha : Sm a) (k : Nat) : a[k]?.getD 0 < 65536 := by
  cases h : a[k]? with
  | none => simp
  | some d => exact ha d (List.mem_of_getElem? h)
theorem Sm.set {a : List Nat} (ha : Sm a) (k : Nat) {d : Nat} (hd : d < 65536) : Sm (a.set k d) := fun x hx => by
  rcases List.mem_or_eq_of_mem_set hx with h | h
  · exact ha x h
  · omega

theorem val_append (a b : List Nat) : val (a ++ b) = val a + 65536 ^ a.length * val b := by
  induction a with
  | nil => simp [val]
  | cons d a ih =>
    simp only [List.cons_append, val, ih, List.length_cons, Nat.pow_succ]
    rw [Nat.mul_add, Nat.add_assoc, ← Nat.mul_assoc, Nat.mul_comm 65536 (65536 ^ a.length)]
theorem val_one (d : Nat) : val [d] = d := by simp [val]
theorem val_snoc (a : List Nat) (d : Nat) : val (a ++ [d]) = val a + 65536 ^ a.length * d := by rw [val_append, val_one]
theorem val_lt {l : List Nat} (h : Sm l) : val l < 65536 ^ l.length := by
  induction l with
  | nil => simp [val]
  | cons d l ih =>
    have h1 := h d (by simp)
    have h2 := ih fun x hx => h x (by simp [hx])
    simp only [val, List.length_cons, Nat.pow_succ]
    omega
theorem val_take_drop (l : List Nat) (k : Nat) (hk : k ≤ l.length) : val l = val (l.take k) + 65536 ^ k * val (l.drop k) := by
  conv => lhs; rw [← List.take_append_drop k l]
  rw [val_append, List.length_take, Nat.min_eq_left hk]
theorem val_at {l : List Nat} (h : Sm l) : ∀ i, l[i]?.getD 0 = val l / 65536 ^ i % 65536 := by
  induction l with
  | nil => intro i; simp [val]
  | cons d l ih =>
    intro i
    have h1 := h d (by simp)
    have h2 := ih (fun x hx => h x (by simp [hx]))
    cases i with
    | zero => simp [val]; omega
    | succ i =>
      simp only [List.getElem?_cons_succ, h2, val, Nat.pow_succ, Nat.mul_comm (65536 ^ i), ← Nat.div_div_eq_div_mul]
      rw [show (d + 65536 * val l) / 65536 = val l by omega]
theorem val_take {l : List Nat} (h : Sm l) (k : Nat) : val (l.take k) = val l % 65536 ^ k := by
  rcases Nat.lt_or_ge l.length k with hk | hk
  · have h1 := val_lt h
    have h2 : 65536 ^ l.length ≤ 65536 ^ k := Nat.pow_le_pow_right (by omega) (by omega)
    rw [List.take_of_length_le (by omega), Nat.mod_eq_of_lt (by omega)]
  · have h1 := val_take_drop l k hk
    have h2 := val_lt (h.take k)
    rw [List.length_take, Nat.min_eq_left hk] at h2
    rw [h1, Nat.add_mul_mod_self_left, Nat.mod_eq_of_lt h2]
theorem val_drop {l : List Nat} (h : Sm l) (k : Nat) : val (l.drop k) = val l / 65536 ^ k := by
  rcases Nat.lt_or_ge l.length k with hk | hk
  · have h1 := val_lt h
    have h2 : 65536 ^ l.length ≤ 65536 ^ k := Nat.pow_le_pow_right (by omega) (by omega)
    rw [List.drop_of_length_le (by omega), Nat.div_eq_of_lt (by omega)]; rfl
  · have h1 := val_take_drop l k hk
    have h2 := val_lt (h.take k)
    rw [List.length_take, Nat.min_eq_left hk] at h2
    rw [h1, Nat.add_mul_div_left _ _ (Nat.pow_pos (by omega)), Nat.div_eq_of_lt h2, Nat.zero_add]
theorem val_inj {a b : List Nat} (ha : Sm a) (hb : Sm b) (hl : a.length = b.length) (h : val a = val b) : a = b := by
  apply List.ext_getElem? ; intro i
  have h1 := val_at ha i
  have h2 := val_at hb i
  rw [h] at h1
  rcases Nat.lt_or_ge i a.length with hi | hi
  · rw [List.getElem?_eq_getElem hi] at h1 ⊢
    rw [List.getElem?_eq_getElem (by omega)] at h2 ⊢
    simp at h1 h2; rw [h1, h2]
  · rw [List.getElem?_eq_none hi, List.getElem?_eq_none (by omega)]

theorem Dg.len {l : List Nat} {n k : Nat} (h : Dg l n) (hn : n < 65536 ^ k) : l.length ≤ k := by
  rcases Nat.lt_or_ge k l.length with hk | hk
  · exfalso
    have h1 := val_take_drop l (l.length - 1) (by omega)
    have h2 : l.drop (l.length - 1) = [l[l.length - 1]] := by
      rw [List.drop_eq_getElem_cons (by omega), List.drop_of_length_le (by omega)]
    have h3 : l.getLast? = some l[l.length - 1] := by
      rw [List.getLast?_eq_getElem?, List.getElem?_eq_getElem (by omega)]
    have h4 := h.top
    rw [h3] at h4
    have h5 : l[l.length - 1] ≠ 0 := fun e => h4 (by rw [e])
    rw [h2, val_one, h.val] at h1
    have h6 : 65536 ^ k ≤ 65536 ^ (l.length - 1) := Nat.pow_le_pow_right (by omega) (by omega)
    have h7 : 65536 ^ (l.length - 1) * 1 ≤ 65536 ^ (l.length - 1) * l[l.length - 1] := Nat.mul_le_mul_left _ (by omega)
    omega
  · exact hk
theorem Dg.only {a b : List Nat} {n : Nat} (ha : Dg a n) (hb : Dg b n) : a = b := by
  have h1 := hb.len (k := a.length) (by have := val_lt ha.sm; rw [ha.val] at this; exact this)
  have h2 := ha.len (k := b.length) (by have := val_lt hb.sm; rw [hb.val] at this; exact this)
  exact val_inj ha.sm hb.sm (by omega) (by rw [ha.val, hb.val])
theorem Dg.nil : Dg [] 0 := ⟨⟨Sm.nil, rfl⟩, by simp⟩
theorem Dg.zero {l : List Nat} (h : Dg l 0) : l = [] := List.eq_nil_of_length_eq_zero (by have := h.len (k := 0) (by simp); omega)
theorem Dg.pos {l : List Nat} {n : Nat} (h : Dg l n) (hn : n ≠ 0) : 0 < l.length := by
  rcases Nat.eq_zero_or_pos l.length with h0 | h0
  · have := List.eq_nil_of_length_eq_zero h0
    subst this
    exact absurd h.val.symm hn
  · exact h0
theorem Dv.lt {l : List Nat} {n : Nat} (h : Dv l n) : n < 65536 ^ l.length := h.val ▸ val_lt h.sm
theorem Dv.at_ {l : List Nat} {n : Nat} (h : Dv l n) (i : Nat) : l[i]?.getD 0 = n / 65536 ^ i % 65536 := h.val ▸ val_at h.sm i
theorem Dv.mk' {l : List Nat} (h : Sm l) : Dv l (Go.Proofs.YtdlmamnnamlleaaDoor.val l) := ⟨h, rfl⟩

/-! trim -/
theorem trim_step {l : List Nat} {k : Nat} (hk : k < l.length) (h0 : l[k] = 0) : val (l.take (k + 1)) = val (l.take k) := by
  rw [List.take_succ_eq_append_getElem hk, val_snoc, h0]; simp
theorem trim_end {l : List Nat} {n k : Nat} (hs : Sm l) (hv : val (l.take k) = n) (hk : k ≤ l.length) (h : k = 0 ∨ l[k - 1]? ≠ some 0) : Dg (l.take k) n := by
  refine ⟨⟨hs.take k, hv⟩, ?_⟩
  rcases h with rfl | h
  · simp
  · rw [List.getLast?_eq_getElem?, List.length_take, Nat.min_eq_left hk]
    rcases Nat.eq_zero_or_pos k with rfl | hp
    · simp
    · rwa [List.getElem?_take_of_lt (by omega)]

/-! Order: the highest digit that differs. -/
def order (a b : Nat) : Int := if a < b then -1 else if b < a then 1 else 0
theorem order_step {a b i : Nat} (hlt : a / 65536 ^ (i + 1) = b / 65536 ^ (i + 1)) :
    (a / 65536 ^ i % 65536 < b / 65536 ^ i % 65536 → a < b) ∧ (b / 65536 ^ i % 65536 < a / 65536 ^ i % 65536 → b < a) ∧ (a / 65536 ^ i % 65536 = b / 65536 ^ i % 65536 → a / 65536 ^ i = b / 65536 ^ i) := by
  have h1 : ∀ x, x / 65536 ^ (i + 1) = x / 65536 ^ i / 65536 := fun x => by rw [Nat.pow_succ, Nat.div_div_eq_div_mul]
  rw [h1, h1] at hlt
  refine ⟨fun h => ?_, fun h => ?_, fun h => by omega⟩
  · have h2 : a / 65536 ^ i < b / 65536 ^ i := by omega
    exact Nat.lt_of_not_le fun h3 => by have := Nat.div_le_div_right (c := 65536 ^ i) h3; omega
  · have h2 : b / 65536 ^ i < a / 65536 ^ i := by omega
    exact Nat.lt_of_not_le fun h3 => by have := Nat.div_le_div_right (c := 65536 ^ i) h3; omega

/-! Words of 64 bits. -/
def wd (n i : Nat) : Nat := n / 2 ^ (64 * i) % 2 ^ 64
theorem wd_lt (n i : Nat) : wd n i < 18446744073709551616 := Nat.mod_lt _ (by decide)
/-- The value of words. -/
def wval (f : Nat → Nat) : Nat → Nat
  | 0 => 0
  | k + 1 => wval f k + 2 ^ (64 * k) * f k
theorem wval_lt {f : Nat → Nat} {k : Nat} (h : ∀ i < k, f i < 18446744073709551616) : wval f k < 2 ^ (64 * k) := by
  induction k with
  | zero => simp [wval]
  | succ k ih =>
    have h1 := ih fun i hi => h i (by omega)
    have h2 := h k (by omega)
    have h3 : 2 ^ (64 * k) * (f k + 1) ≤ 2 ^ (64 * k) * 2 ^ 64 := Nat.mul_le_mul_left _ (by omega)
    rw [Nat.mul_add] at h3
    simp only [wval]
    rw [show 64 * (k + 1) = 64 * k + 64 by omega, Nat.pow_add]
    omega
theorem wval_congr {f g : Nat → Nat} {k : Nat} (h : ∀ i < k, f i = g i) : wval f k = wval g k := by
  induction k with
  | zero => rfl
  | succ k ih => simp only [wval]; rw [ih fun i hi => h i (by omega), h k (by omega)]
theorem wval_wd (n k : Nat) : wval (wd n) k = n % 2 ^ (64 * k) := by
  induction k with
  | zero => simp [wval, Nat.mod_one]
  | succ k ih =>
    simp only [wval, ih, wd]
    rw [show 64 * (k + 1) = 64 * k + 64 by omega, Nat.pow_add, Nat.mod_mul]
theorem wd_wval {f : Nat → Nat} {k : Nat} (h : ∀ i < k, f i < 18446744073709551616) : ∀ i < k, wd (wval f k) i = f i := by
  induction k with
  | zero => intro i hi; omega
  | succ k ih =>
    intro i hi
    have hlt := wval_lt (f := f) (k := k) fun i hi => h i (by omega)
    unfold wd
    simp only [wval]
    rcases Nat.lt_or_ge i k with hik | hik
    · have h1 := ih (fun i hi => h i (by omega)) i hik
      unfold wd at h1
      rw [show 64 * k = 64 * i + 64 + 64 * (k - i - 1) by omega, Nat.pow_add, Nat.pow_add, Nat.mul_assoc, Nat.mul_assoc, Nat.add_mul_div_left _ _ (Nat.pow_pos (by omega)), Nat.add_mul_mod_self_left]
      exact h1
    · obtain rfl : i = k := by omega
      rw [Nat.add_mul_div_left _ _ (Nat.pow_pos (by omega)), Nat.div_eq_of_lt hlt, Nat.zero_add, Nat.mod_eq_of_lt (h i (by omega))]
theorem wd_zero (i : Nat) : wd 0 i = 0 := by simp [wd]
theorem wd_inj {a b k : Nat} (ha : a < 2 ^ (64 * k)) (hb : b < 2 ^ (64 * k)) (h : ∀ i < k, wd a i = wd b i) : a = b := by
  have h1 := wval_wd a k
  have h2 := wval_wd b k
  rw [Nat.mod_eq_of_lt ha] at h1
  rw [Nat.mod_eq_of_lt hb] at h2
  rw [← h1, ← h2, wval_congr h]
end Go.Proofs.YtdlmamnnamlleaaDoor
namespace Go.Proofs.YtdlmamnnamlleaaDoor
open Go.ChangeShapes Go.WideShapes Go.ChangeAt Go.RowKit
set_option maxHeartbeats 1000000
set_option maxRecDepth 100000

def lenOf : Value → Nat
  | .slice _ n _ => n
  | _ => 0
abbrev i64v (d : Nat) : Value := .int .i64 (d : Int)
def digV (l : List Nat) : List Value := l.map i64v
theorem digV_len (l : List Nat) : (digV l).length = l.length := by simp [digV]
theorem digV_append (a b : List Nat) : digV (a ++ b) = digV a ++ digV b := by simp [digV]
theorem digV_take (a : List Nat) (k : Nat) : digV (a.take k) = (digV a).take k := by simp [digV]
theorem digV_one (l : List Nat) : ∀ u ∈ digV l, u.oneCell' = true := by
  intro u hu
  obtain ⟨d, -, rfl⟩ := List.mem_map.1 hu
  rfl
theorem digV_at {w : World} {B : Nat} {A : Option Addr} {l : List Nat} (h : Rd w B A (digV l)) {k : Nat} (hk : k < l.length) : ∃ ad, A = some ad ∧ ad.block < B ∧ w.cell? (ad.add k) = some (.int .i64 (l[k] : Nat)) := by
  obtain ⟨ad, e, hb, hc⟩ := h.at_ (k := k) (by rw [digV_len]; exact hk)
  exact ⟨ad, e, hb, by rw [hc]; simp [digV]⟩

/-- A slice of digits. -/
structure Ds (w : World) (A : Option Addr) (l : List Nat) (c : Nat) : Prop where
  rd : Rd w w.heap.size A (digV l)
  sm : Sm l
  le : l.length ≤ c
  mx : c ≤ 9223372036854775807
theorem Ds.below {w w' : World} {A : Option Addr} {l : List Nat} {c B : Nat} (h : Ds w A l c) (hb : Below B w w') (hB : w.heap.size ≤ B) : Ds w' A l c :=
  ⟨fun j u hu => by
    obtain ⟨ad, e, hl, hc⟩ := h.rd j u hu
    exact ⟨ad, e, Nat.lt_of_lt_of_le hl hb.size, (hb.cell (p := ad.add j) (by rw [addr_block]; omega)).trans hc⟩, h.sm, h.le, h.mx⟩
/-- A value that is a number: its digits, none 0 at the end. -/
def IsN (w : World) (v : Value) (n : Nat) : Prop := ∃ A l c, v = .slice A l.length c ∧ Ds w A l c ∧ Dg l n
def RetN (n : Nat) (w : World) (e : Ending) (w' : World) : Prop := ∃ v, e = .returned v ∧ IsN w' v n ∧ Below w.heap.size w w'

def TrimR (A : Option Addr) (l : List Nat) (c : Nat) (w : World) (e : Ending) (w' : World) : Prop := ∃ k, k ≤ l.length ∧ e = .returned (.slice A k c) ∧ Dg (l.take k) (val l) ∧ w = w'

theorem SI : SlT Tryd.prog 89 3 1 8 := SlT.mk' Tryd.underlying89 (by kernel_rfl) (by omega)

theorem ref_trim (A : Option Addr) (l : List Nat) (c : Nat) (w : World) (h : Ds w A l c) :
    Calls Tryd.prog 67 #[.slice A l.length c] w (TrimR A l c w) := by
  have hcl := h.le
  have hmx := h.mx
  go_enter Tryd.func67, Tryd.ntmps67
  go_wp2
  go_loop [0] (fun x => ∃ k : Nat, k ≤ l.length ∧ x = .slice A k c ∧ Hid (val (l.take k) = val l)) (fun x => lenOf x)
  case atStart => exact ⟨l.length, Nat.le_refl _, rfl, Lib.hid (by rw [List.take_length])⟩
  case round =>
    obtain ⟨k, hk, rfl, hv⟩ := hrel
    by_cases h0 : k = 0
    · subst h0
      go_wp2
      go_ret
      exact ⟨0, by omega, rfl, trim_end h.sm hv.out (by omega) (.inl rfl), rfl⟩
    · obtain ⟨ad, rfl, hb, hc⟩ := digV_at h.rd (k := k - 1) (by omega)
      have hk0 : (0 : Int) < k := by omega
      have hk1 : ((k : Int) - 1).toNat = k - 1 := by omega
      by_cases hz : l[k - 1] = 0
      · have hz' : (((l[k - 1] : Nat) : Int) == 0) = true := by simp [hz]
        have hsl := sl_to SI (some ad) k c (k - 1) ((k : Int) - 1) (by omega) (by omega) hk1
        have hts := Lib.hid (trim_step (k := k - 1) (by omega) hz)
        clear hz
        go_wp2
        go_round
        case rel => exact ⟨k - 1, by omega, rfl, Lib.hid (by rw [← hv.out, ← hts.out, show k - 1 + 1 = k by omega])⟩
        case measure => simp [lenOf]; omega
      · have hz' : (((l[k - 1] : Nat) : Int) == 0) = false := by simp; omega
        have hne : l[k - 1]? ≠ some 0 := by rw [List.getElem?_eq_getElem (by omega)]; simpa using hz
        have hH := Lib.hid hne
        clear hne
        replace hz := Lib.hid hz
        go_wp2
        go_ret
        exact ⟨k, hk, rfl, trim_end h.sm hv.out hk (.inr hH.out), rfl⟩

def digZ (l : List Nat) (i : Int) : Nat := if i < 0 then 0 else l[i.toNat]?.getD 0
theorem digZ_nat (l : List Nat) (k : Nat) : digZ l k = l[k]?.getD 0 := by unfold digZ; rw [if_neg (by omega)]; rfl
theorem digZ_lt {l : List Nat} (h : Sm l) (i : Int) : digZ l i < 65536 := by
  unfold digZ; split
  · omega
  · exact h.at_ _
theorem ref_digit (A : Option Addr) (l : List Nat) (c : Nat) (i : Int) (w : World) (h : Ds w A l c) :
    Calls Tryd.prog 66 #[.slice A l.length c, .int .i64 i] w fun e w' => e = .returned (.int .i64 (digZ l i : Nat)) ∧ w = w' := by
  have hcl := h.le
  have hmx := h.mx
  by_cases h0 : i < 0
  · go_enter Tryd.func66, Tryd.ntmps66
    have hd : decide (i < 0) = true := by simpa using h0
    go_wp2
    go_ret
    exact ⟨ret_int (by unfold digZ; rw [if_pos (of_decide_eq_true hd)]; rfl), rfl⟩
  · have hd : decide (i < 0) = false := by simpa using h0
    by_cases h1 : i.toNat < l.length
    · obtain ⟨ad, rfl, hb, hc⟩ := digV_at h.rd h1
      have hd2 : decide ((l.length : Int) ≤ i) = false := by simp; omega
      have e : l[i.toNat]?.getD 0 = l[i.toNat] := by rw [List.getElem?_eq_getElem h1]; rfl
      have hE := Lib.hid e
      clear e
      go_enter Tryd.func66, Tryd.ntmps66
      go_wp2
      go_ret
      exact ⟨ret_int (by unfold digZ; rw [if_neg (of_decide_eq_false hd), hE.out]), rfl⟩
    · have hd2 : decide ((l.length : Int) ≤ i) = true := by simp; omega
      have e : l[i.toNat]?.getD 0 = 0 := by rw [List.getElem?_eq_none (by omega)]; rfl
      have hE := Lib.hid e
      clear e
      go_enter Tryd.func66, Tryd.ntmps66
      go_wp2
      go_ret
      exact ⟨ret_int (by unfold digZ; rw [if_neg (of_decide_eq_false hd), hE.out]; rfl), rfl⟩

theorem ds_own {w0 W : World} {B : Nat} {e : TypeId} {A : Option Addr} {n c : Nat} {l : List Nat} (h : Own w0 B e (.slice A n c) (digV l) W) (hs : Sm l) : n = l.length ∧ Ds W A l c := by
  obtain ⟨A', c', e1, h2, h3⟩ := h.form
  injection e1 with e1 e2 e3
  rw [digV_len] at e2 h2
  exact ⟨e2, h.rd, hs, by rw [e3]; exact h2, by rw [e3]; exact h3⟩
/-- What trim leaves of a slice of the call's own. -/
theorem isN_trim {W : World} {A : Option Addr} {l : List Nat} {c k : Nat} (h : Ds W A l c) (hk : k ≤ l.length) (hg : Dg (l.take k) (val l)) : IsN W (.slice A k c) (val l) :=
  ⟨A, l.take k, c, by rw [List.length_take, Nat.min_eq_left hk], ⟨by rw [digV_take]; exact h.rd.take, h.sm.take k, by rw [List.length_take, Nat.min_eq_left hk]; exact Nat.le_trans hk h.le, h.mx⟩, hg⟩
theorem digV_snoc (l : List Nat) (d : Nat) : digV (l ++ [d]) = digV l ++ [.int .i64 (d : Int)] := by simp [digV]

theorem arrK_rd {w : World} {B : Nat} {A : Option Addr} {k : IntKind} {n : Nat} {f : Nat → Nat} (h : Rd w B A (arrK k n f).toList) {i : Nat} (hi : i < n) : ∃ ad, A = some ad ∧ ad.block < B ∧ w.cell? (ad.add i) = some (.int k (f i)) :=
  h i _ (by rw [Array.getElem?_toList, arrK_at hi])

theorem dig_step {f : Nat → Nat} {k j x : Nat} {L : List Nat} (hL : L.length = 4 * k + j) (hv : val L = wval f k + 2 ^ (64 * k) * (f k % 65536 ^ j)) (hx : x = f k / 65536 ^ j) :
    val (L ++ [x % 65536]) = wval f k + 2 ^ (64 * k) * (f k % 65536 ^ (j + 1)) := by
  have h1 : 65536 ^ L.length = 2 ^ (64 * k) * 65536 ^ j := by
    rw [hL, Nat.pow_add, show (65536 : Nat) = 2 ^ 16 from rfl, ← Nat.pow_mul]
    congr 2; omega
  rw [val_snoc, hv, h1, hx, Nat.pow_succ, Nat.mod_mul, Nat.mul_add, Nat.mul_assoc, Nat.add_assoc]
theorem dig_end {f : Nat → Nat} {k : Nat} {L : List Nat} (hf : f k < 18446744073709551616) (hv : val L = wval f k + 2 ^ (64 * k) * (f k % 65536 ^ 4)) : val L = wval f (k + 1) := by
  rw [hv, Nat.mod_eq_of_lt (by simpa using hf)]; rfl

theorem ref_Digits (A : Option Addr) (m c : Nat) (f : Nat → Nat) (w : World) (h : Rd w w.heap.size A (arrK .u64 m f).toList) (hm : m ≤ 1000000) (hmc : m ≤ c) (hc : c ≤ 9223372036854775807) (hf : ∀ i < m, f i < 18446744073709551616) :
    Calls Tryd.prog 65 #[.slice A m c] w (RetN (wval f m) w) := by
  go_enter Tryd.func65, Tryd.ntmps65
  go_wp2
  go_loopw [3, 8] (fun v i wr => ∃ (k : Nat) (L : List Nat), k ≤ m ∧ i = .int .i64 k ∧ Own w w.heap.size 3 v (digV L) wr ∧ L.length ≤ 4 * k ∧ 4 * k ≤ L.length ∧ Hid (Sm L ∧ val L = wval f k)) (fun _ i _ => m - (intOf i).toNat)
  case atStart => exact ⟨0, [], by omega, rfl, Own.start _ _, by simp, by simp, Sm.nil, rfl⟩
  case round =>
    obtain ⟨k, L, hk, rfl, hO, hl1, hl2, hH⟩ := hrel
    by_cases hlt : k < m
    · obtain ⟨ad, rfl, hb, hcl⟩ := arrK_rd (h.kp (kp_of_below hO.bel)) hlt
      have hfk := hf k hlt
      go_wp2
      obtain ⟨wo, rfl⟩ : ∃ wo : World, wo = wr := ⟨_, rfl⟩
      go_loopw [3, 5, 12] (fun v x i wr => ∃ (j : Nat) (L : List Nat) (x' : Nat), j ≤ 4 ∧ i = .int .i64 j ∧ x = .int .u64 x' ∧ x' < 18446744073709551616 ∧ Own w w.heap.size 3 v (digV L) wr ∧ L.length ≤ 4 * k + j ∧ 4 * k + j ≤ L.length ∧ Hid (x' = f k / 65536 ^ j ∧ Sm L ∧ val L = wval f k + 2 ^ (64 * k) * (f k % 65536 ^ j))) (fun _ _ i _ => 4 - (intOf i).toNat)
      case atStart => exact ⟨0, L, f k, by omega, rfl, rfl, hfk, hO, by omega, by omega, by simp, hH.out.1, by rw [hH.out.2]; simp [Nat.mod_one]⟩
      case round =>
        obtain ⟨j, L, x, hj, rfl, rfl, hx, hO, hl1, hl2, hH⟩ := hrel
        by_cases hj4 : j = 4
        · subst hj4
          go_wp2
          go_roundw
          case rel => exact ⟨k + 1, L, by omega, by go_num, hO, by omega, by omega, hH.out.2.1, dig_end hfk hH.out.2.2⟩
          case measure => simp [intOf]; omega
        · go_wp2_with (at_builtin; refine wpList_own1 (o := ⟨some 19, _, _, _, _, _⟩) rfl (.tmp 14) (.tmp 18) 89 rfl SI rfl hO (.int .i64 ((x : Int) % 65536)) rfl rfl (by rw [digV_len]; unfold maxLen; omega) (by rw [digV_len]; omega) ?_; intro v1 w1 hO1 hg1 hat1; clear hg1 hat1)
          go_roundw
          case rel => exact ⟨j + 1, L ++ [x % 65536], x / 65536, by omega, by go_num, by go_num, by omega, by rw [digV_snoc]; exact hO1, by simp; omega, by simp; omega, by rw [hH.out.1, Nat.div_div_eq_div_mul, Nat.pow_succ], hH.out.2.1.append (Sm.one (Nat.mod_lt _ (by omega))), dig_step (by omega) hH.out.2.2 hH.out.1⟩
          case measure => simp [intOf]; omega
    · obtain rfl : k = m := by omega
      obtain ⟨A', c', rfl, -, -⟩ := hO.form
      obtain ⟨hn, hD⟩ := ds_own hO hH.out.1
      have hb := hO.bel
      rw [hn]
      go_wp2_with (go_at_call 67; refine (ref_trim A' L c' _ hD).mono ?_; rintro e w' ⟨q, hq, rfl, hg, rfl⟩)
      go_ret
      exact ⟨_, rfl, hH.out.2 ▸ isN_trim hD hq hg, hb⟩

/-! ### Numbers of words -/
def numV (n : Nat) : Value := .agg (arrK .u64 4 (wd n))
def wideV (n : Nat) : Value := .agg (arrK .u64 8 (wd n))
theorem arrK4 (k : IntKind) (f : Nat → Nat) : #[Value.int k (f 0), Value.int k (f 1), Value.int k (f 2), Value.int k (f 3)] = arrK k 4 f :=
  arrK_of rfl fun i hi => by rcases (by omega : i = 0 ∨ i = 1 ∨ i = 2 ∨ i = 3) with rfl | rfl | rfl | rfl <;> rfl
theorem arrK8 (k : IntKind) (f : Nat → Nat) : #[Value.int k (f 0), Value.int k (f 1), Value.int k (f 2), Value.int k (f 3), Value.int k (f 4), Value.int k (f 5), Value.int k (f 6), Value.int k (f 7)] = arrK k 8 f :=
  arrK_of rfl fun i hi => by rcases (by omega : i = 0 ∨ i = 1 ∨ i = 2 ∨ i = 3 ∨ i = 4 ∨ i = 5 ∨ i = 6 ∨ i = 7) with rfl | rfl | rfl | rfl | rfl | rfl | rfl | rfl <;> rfl

theorem ref_OfNum (n : Nat) (w : World) (hn : n < 2 ^ 256) :
    Calls Tryd.prog 39 #[numV n] w (RetN n w) := by
  have hb := arrK_cells .u64 4 (wd n)
  have hc : ∀ i < 4, (w.alloc (Obj.cells (arrK .u64 4 (wd n)) 41)).cell? ⟨w.heap.size, i, none⟩ = some (.int .u64 (wd n i)) := fun i hi => by
    have hR : Row (w.alloc (Obj.cells (arrK .u64 4 (wd n)) 41)) w.heap.size 4 := (row_new rfl).2 hb.1
    rw [hR.cell, rowAt_new rfl, arrK_at hi]
  have h0 := hc 0 (by omega)
  have h1 := hc 1 (by omega)
  have h2 := hc 2 (by omega)
  have h3 := hc 3 (by omega)
  have hr : Rd ((w.alloc (Obj.cells (arrK .u64 4 (wd n)) 41)).alloc (Obj.cells #[Value.int IntKind.u64 (wd n 0 : Nat), Value.int IntKind.u64 (wd n 1 : Nat), Value.int IntKind.u64 (wd n 2 : Nat), Value.int IntKind.u64 (wd n 3 : Nat)] 39)) ((w.alloc (Obj.cells (arrK .u64 4 (wd n)) 41)).alloc (Obj.cells #[Value.int IntKind.u64 (wd n 0 : Nat), Value.int IntKind.u64 (wd n 1 : Nat), Value.int IntKind.u64 (wd n 2 : Nat), Value.int IntKind.u64 (wd n 3 : Nat)] 39)).heap.size (some ⟨w.heap.size + 1, 0, none⟩) (arrK .u64 4 (wd n)).toList := by
    rw [← arrK4]; exact Rd.of_blk (blk_new _ _ (by simp)) (by simp)
  have hB : Below w.heap.size w ((w.alloc (Obj.cells (arrK .u64 4 (wd n)) 41)).alloc (Obj.cells #[Value.int IntKind.u64 (wd n 0 : Nat), Value.int IntKind.u64 (wd n 1 : Nat), Value.int IntKind.u64 (wd n 2 : Nat), Value.int IntKind.u64 (wd n 3 : Nat)] 39)) := by go_grown
  have hv : wval (wd n) 4 = n := by rw [wval_wd]; exact Nat.mod_eq_of_lt hn
  have hHv := Lib.hid hv
  clear hc hv
  unfold numV
  go_enter Tryd.func39, Tryd.ntmps39
  go_wp2_with fail
  refine (ref_Digits _ 4 4 (wd n) _ hr (by omega) (by omega) (by omega) (fun i _ => wd_lt n i)).mono ?_
  rintro e w' ⟨v, rfl, hN, hb'⟩
  rw [hHv.out] at hN
  have hB' := hB.trans (hb'.mono (by simp; omega))
  clear hb' hB hr
  go_wp2
  go_ret
  exact ⟨v, rfl, hN, hB'⟩
/-! words: the digits from the highest on. -/
def wD (l : List Nat) (s q : Nat) : Nat := val ((l.drop (max s (4 * q))).take (4 * q + 4 - max s (4 * q)))
theorem wD_end {l : List Nat} (h : Sm l) (q : Nat) : wD l 0 q = wd (val l) q := by
  unfold wD wd
  rw [Nat.zero_max, val_take (h.drop _), val_drop h, show 4 * q + 4 - 4 * q = 4 by omega, show (65536 : Nat) ^ 4 = 2 ^ 64 from rfl, show (65536 : Nat) = 2 ^ 16 from rfl, ← Nat.pow_mul]
  congr 3; omega
theorem wD_top {l : List Nat} {s : Nat} (h : l.length ≤ s) (q : Nat) : wD l s q = 0 := by
  unfold wD
  rw [List.drop_of_length_le (by omega)]; simp [val]
theorem wD_step {l : List Nat} {i q : Nat} (hi : i < l.length) (hq : i / 4 = q) : wD l i q = l[i] + 65536 * wD l (i + 1) q := by
  unfold wD
  rw [show max i (4 * q) = i by omega, show max (i + 1) (4 * q) = i + 1 by omega, List.drop_eq_getElem_cons hi, show 4 * q + 4 - i = (4 * q + 4 - (i + 1)) + 1 by omega, List.take_succ_cons]
  rfl
theorem wD_else {l : List Nat} {i q : Nat} (hq : i / 4 ≠ q) : wD l (i + 1) q = wD l i q := by
  unfold wD
  rcases Nat.lt_or_ge i (4 * q) with h | h
  · rw [show max (i + 1) (4 * q) = 4 * q by omega, show max i (4 * q) = 4 * q by omega]
  · rw [show 4 * q + 4 - max (i + 1) (4 * q) = 0 by omega, show 4 * q + 4 - max i (4 * q) = 0 by omega]; simp
theorem wD_lt {l : List Nat} (h : Sm l) (s q : Nat) : wD l s q < 65536 ^ (4 * q + 4 - max s (4 * q)) := by
  have h1 := val_lt ((h.drop (max s (4 * q))).take (4 * q + 4 - max s (4 * q)))
  exact Nat.lt_of_lt_of_le h1 (Nat.pow_le_pow_right (by omega) (by rw [List.length_take]; omega))

def RetW (n m : Nat) (w : World) (e : Ending) (w' : World) : Prop := ∃ g, e = .returned (.slice (some ⟨g, 0, none⟩) m m) ∧ Row w' g m ∧ rowAt w' g = arrK .u64 m (wd n) ∧ g < w'.heap.size ∧ Below w.heap.size w w'

theorem made_arrK (k : IntKind) (n : Nat) : madeCells #[Value.int k 0] n = arrK k n fun _ => 0 :=
  arrK_of (by rw [size_madeCells]) fun i hi => by simp [madeCells, hi, Nat.mod_one]

theorem ref_words (A : Option Addr) (l : List Nat) (c m : Nat) (w : World) (h : Ds w A l c) (hm : m ≤ 8) (hm0 : 0 < m) :
    Calls Tryd.prog 69 #[.slice A l.length c, .int .i64 m] w (RetW (val l) m w) := by
  have hcl := h.le
  have hmx := h.mx
  have hmk := run_make_row' (P := Tryd.prog) 132 39 (.int .u64 0) 8 Tryd.underlying132 (by kernel_rfl) rfl .i64 .i64 m (by omega) (by omega)
  rw [made_arrK] at hmk
  go_enter Tryd.func69, Tryd.ntmps69
  have hR0 : Row (w.alloc (Obj.cells (arrK .u64 m fun _ => 0) 39)) w.heap.size m := (row_new rfl).2 (arrK_size _ _ _)
  have hr0 : rowAt (w.alloc (Obj.cells (arrK .u64 m fun _ => 0) 39)) w.heap.size = arrK .u64 m (wD l l.length) := by rw [rowAt_new rfl]; exact arrK_congr fun q _ => (wD_top (Nat.le_refl _) q).symm
  have hL0 : Below w.heap.size w (w.alloc (Obj.cells (arrK .u64 m fun _ => 0) 39)) := by go_grown
  go_wp2
  generalize w.alloc (Obj.cells (arrK .u64 m fun _ => 0) 39) = W0 at *
  go_loopw [6] (fun i wr => ∃ s : Nat, i = .int .i64 ((s : Int) - 1) ∧ s ≤ l.length ∧ Row wr w.heap.size m ∧ rowAt wr w.heap.size = arrK .u64 m (wD l s) ∧ Below w.heap.size w wr) (fun i _ => (intOf i + 1).toNat)
  case atStart => exact ⟨l.length, rfl, by omega, hR0, hr0, hL0⟩
  case round =>
    obtain ⟨s, rfl, hs, hR, hr, hL⟩ := hrel
    rcases Nat.eq_zero_or_pos s with rfl | hs0
    · go_wp2
      go_ret
      exact ⟨_, rfl, hR, by rw [hr]; exact arrK_congr fun q _ => wD_end h.sm q, hR.lt, hL⟩
    · obtain ⟨i, rfl⟩ : ∃ i, s = i + 1 := ⟨s - 1, by omega⟩
      rw [show (((i + 1 : Nat) : Int) - 1) = (i : Int) by omega]
      by_cases hi4 : i < 4 * m
      · obtain ⟨ad, rfl, hb, hc⟩ := digV_at (h.below hL (Nat.le_refl _)).rd (show i < l.length by omega)
        obtain ⟨q, hq⟩ : ∃ q, q = i / 4 := ⟨_, rfl⟩
        have hqm : q < m := by omega
        have hc2 : wr.cell? ⟨w.heap.size, q, none⟩ = some (.int .u64 (wD l (i + 1) q : Nat)) := by rw [hR.cell, hr, arrK_at hqm]
        have hf := hR.frozen q
        have hst := wD_step (show i < l.length by omega) hq.symm
        have hel : ∀ p, p ≠ q → wD l (i + 1) p = wD l i p := fun p hp => wD_else (by omega)
        have hlt := wD_lt h.sm (i + 1) q
        have hlt2 : wD l (i + 1) q < 281474976710656 := Nat.lt_of_lt_of_le hlt (Nat.le_trans (Nat.pow_le_pow_right (by omega) (show 4 * q + 4 - max (i + 1) (4 * q) ≤ 3 by omega)) (by decide))
        have hd := h.sm l[i] (List.getElem_mem _)
        have hqi : Int.tdiv (i : Int) 4 = q := by rw [Int.tdiv_eq_ediv_of_nonneg (by omega)]; omega
        have hqi2 : (i : Int) / 4 = q := by omega
        have hup : arrK .u64 m (upd (wD l (i + 1)) q (l[i] + 65536 * wD l (i + 1) q)) = arrK .u64 m (wD l i) := arrK_congr fun p _ => by
          unfold upd
          by_cases hp : p = q
          · subst hp; rw [if_pos rfl, hst]
          · rw [if_neg hp, hel p hp]
        have hHup := Lib.hid hup
        have hHr := Lib.hid hr
        generalize hX : wD l (i + 1) q = X at *
        generalize hD : l[i] = d at *
        have hw1 : IntKind.u64.wrap ((X : Int) * 65536) = (X : Int) * 65536 := by rw [IntKind.wrap_u64]; omega
        have hw2 : IntKind.u64.wrap ((X : Int) * 65536 + d) = (X : Int) * 65536 + d := by rw [IntKind.wrap_u64]; omega
        have hq1 : (0 : Int) ≤ q := by omega
        have hq2 : (q : Int) < m := by omega
        clear hq hst hel hlt hX hD hup hr
        go_wp2
        go_region
        go_wp2
        go_round
        case rel => exact ⟨i, by go_num, by omega, row_setCell.2 hR, by rw [rowAt_drew, rowAt_setCell_same, hHr.out, show ((X : Int) * 65536 + d) = ((d + 65536 * X : Nat) : Int) by omega, arrK_set, hHup.out], (hL.setCell (Nat.le_refl _) _).drew⟩
        case measure => simp [intOf]
      · go_wp2
        go_round
        case rel => exact ⟨i, by go_num, by omega, hR, by rw [hr]; exact arrK_congr fun q hq => wD_else (by omega), hL⟩
        case measure => simp [intOf]
end Go.Proofs.YtdlmamnnamlleaaDoor
namespace Go.Proofs.YtdlmamnnamlleaaDoor
open Go.ChangeShapes Go.WideShapes Go.ChangeAt Go.RowKit
theorem load_num {w : World} {dst : Option Tmp} {x : Operand} {tt : TypeId} {pos : String} {af : Array Edge} {gd : Option (Nat × Bool)} {a : Act} {K : Act → World → Prop} {Q : Exit → Act → World → Prop}
    (hv : IsHead (a.eval x)) (h : Row w (blkOf (a.eval x)) 4) : Oper.wp Tryd.prog ⟨dst, .load 41 x, tt, pos, af, gd⟩ a w K Q ↔ K (a.put dst (.agg (rowAt w (blkOf (a.eval x))))) w :=
  wp_load_whole Tryd.underlying41 rfl (by kernel_rfl) hv h
theorem store_num {w : World} {dst : Option Tmp} {x y : Operand} {tt : TypeId} {pos : String} {af : Array Edge} {gd : Option (Nat × Bool)} {a : Act} {K : Act → World → Prop} {Q : Exit → Act → World → Prop}
    (hv : IsHead (a.eval x)) (h : Row w (blkOf (a.eval x)) 4) (hx : IsAgg (a.eval y) 4) : Oper.wp Tryd.prog ⟨dst, .store 41 x y, tt, pos, af, gd⟩ a w K Q ↔ K (a.put dst undef) (w.setRow (blkOf (a.eval x)) (cellsV (a.eval y))) :=
  wp_store_whole (by kernel_rfl) hv h hx
theorem execl_num {w : World} {dst : Option Tmp} {x : Operand} {tt : TypeId} {pos : String} {af : Array Edge} {gd : Option (Nat × Bool)} {ρ : Operand → Value}
    (hv : IsHead (ρ x)) (h : Row w (blkOf (ρ x)) 4) : (execOp ρ ⟨dst, .load 41 x, tt, pos, af, gd⟩).run Tryd.prog w = .ok (.value (.agg (rowAt w (blkOf (ρ x))))) w :=
  exec_load_whole Tryd.underlying41 rfl (by kernel_rfl) hv h
theorem execs_num {w : World} {dst : Option Tmp} {x y : Operand} {tt : TypeId} {pos : String} {af : Array Edge} {gd : Option (Nat × Bool)} {ρ : Operand → Value}
    (hv : IsHead (ρ x)) (h : Row w (blkOf (ρ x)) 4) (hx : IsAgg (ρ y) 4) : (execOp ρ ⟨dst, .store 41 x y, tt, pos, af, gd⟩).run Tryd.prog w = .ok .skip (w.setRow (blkOf (ρ x)) (cellsV (ρ y))) :=
  exec_store_whole (by kernel_rfl) hv h hx
theorem load_wide {w : World} {dst : Option Tmp} {x : Operand} {tt : TypeId} {pos : String} {af : Array Edge} {gd : Option (Nat × Bool)} {a : Act} {K : Act → World → Prop} {Q : Exit → Act → World → Prop}
    (hv : IsHead (a.eval x)) (h : Row w (blkOf (a.eval x)) 8) : Oper.wp Tryd.prog ⟨dst, .load 154 x, tt, pos, af, gd⟩ a w K Q ↔ K (a.put dst (.agg (rowAt w (blkOf (a.eval x))))) w :=
  wp_load_whole Tryd.underlying154 rfl (by kernel_rfl) hv h
theorem store_wide {w : World} {dst : Option Tmp} {x y : Operand} {tt : TypeId} {pos : String} {af : Array Edge} {gd : Option (Nat × Bool)} {a : Act} {K : Act → World → Prop} {Q : Exit → Act → World → Prop}
    (hv : IsHead (a.eval x)) (h : Row w (blkOf (a.eval x)) 8) (hx : IsAgg (a.eval y) 8) : Oper.wp Tryd.prog ⟨dst, .store 154 x y, tt, pos, af, gd⟩ a w K Q ↔ K (a.put dst undef) (w.setRow (blkOf (a.eval x)) (cellsV (a.eval y))) :=
  wp_store_whole (by kernel_rfl) hv h hx
theorem execl_wide {w : World} {dst : Option Tmp} {x : Operand} {tt : TypeId} {pos : String} {af : Array Edge} {gd : Option (Nat × Bool)} {ρ : Operand → Value}
    (hv : IsHead (ρ x)) (h : Row w (blkOf (ρ x)) 8) : (execOp ρ ⟨dst, .load 154 x, tt, pos, af, gd⟩).run Tryd.prog w = .ok (.value (.agg (rowAt w (blkOf (ρ x))))) w :=
  exec_load_whole Tryd.underlying154 rfl (by kernel_rfl) hv h
theorem execs_wide {w : World} {dst : Option Tmp} {x y : Operand} {tt : TypeId} {pos : String} {af : Array Edge} {gd : Option (Nat × Bool)} {ρ : Operand → Value}
    (hv : IsHead (ρ x)) (h : Row w (blkOf (ρ x)) 8) (hx : IsAgg (ρ y) 8) : (execOp ρ ⟨dst, .store 154 x y, tt, pos, af, gd⟩).run Tryd.prog w = .ok .skip (w.setRow (blkOf (ρ x)) (cellsV (ρ y))) :=
  exec_store_whole (by kernel_rfl) hv h hx
theorem load_b32 {w : World} {dst : Option Tmp} {x : Operand} {tt : TypeId} {pos : String} {af : Array Edge} {gd : Option (Nat × Bool)} {a : Act} {K : Act → World → Prop} {Q : Exit → Act → World → Prop}
    (hv : IsHead (a.eval x)) (h : Row w (blkOf (a.eval x)) 32) : Oper.wp Tryd.prog ⟨dst, .load 57 x, tt, pos, af, gd⟩ a w K Q ↔ K (a.put dst (.agg (rowAt w (blkOf (a.eval x))))) w :=
  wp_load_whole Tryd.underlying57 rfl (by kernel_rfl) hv h
theorem store_b32 {w : World} {dst : Option Tmp} {x y : Operand} {tt : TypeId} {pos : String} {af : Array Edge} {gd : Option (Nat × Bool)} {a : Act} {K : Act → World → Prop} {Q : Exit → Act → World → Prop}
    (hv : IsHead (a.eval x)) (h : Row w (blkOf (a.eval x)) 32) (hx : IsAgg (a.eval y) 32) : Oper.wp Tryd.prog ⟨dst, .store 57 x y, tt, pos, af, gd⟩ a w K Q ↔ K (a.put dst undef) (w.setRow (blkOf (a.eval x)) (cellsV (a.eval y))) :=
  wp_store_whole (by kernel_rfl) hv h hx
theorem execl_b32 {w : World} {dst : Option Tmp} {x : Operand} {tt : TypeId} {pos : String} {af : Array Edge} {gd : Option (Nat × Bool)} {ρ : Operand → Value}
    (hv : IsHead (ρ x)) (h : Row w (blkOf (ρ x)) 32) : (execOp ρ ⟨dst, .load 57 x, tt, pos, af, gd⟩).run Tryd.prog w = .ok (.value (.agg (rowAt w (blkOf (ρ x))))) w :=
  exec_load_whole Tryd.underlying57 rfl (by kernel_rfl) hv h
theorem execs_b32 {w : World} {dst : Option Tmp} {x y : Operand} {tt : TypeId} {pos : String} {af : Array Edge} {gd : Option (Nat × Bool)} {ρ : Operand → Value}
    (hv : IsHead (ρ x)) (h : Row w (blkOf (ρ x)) 32) (hx : IsAgg (ρ y) 32) : (execOp ρ ⟨dst, .store 57 x y, tt, pos, af, gd⟩).run Tryd.prog w = .ok .skip (w.setRow (blkOf (ρ x)) (cellsV (ρ y))) :=
  exec_store_whole (by kernel_rfl) hv h hx
end Go.Proofs.YtdlmamnnamlleaaDoor
namespace Go.Proofs.YtdlmamnnamlleaaDoor
open Go.ChangeShapes Go.WideShapes Go.ChangeAt Go.RowKit
set_option maxHeartbeats 1000000
set_option maxRecDepth 100000

attribute [local go_sem ↓] load_num store_num execl_num execs_num load_wide store_wide execl_wide execs_wide
attribute [local go_sem] isHead_mk blkOf_mk isAgg_mk cellsV_mk row_drew

theorem ref_ToNum (A : Option Addr) (l : List Nat) (c : Nat) (w : World) (h : Ds w A l c) :
    Calls Tryd.prog 45 #[.slice A l.length c] w fun e w' => e = .returned (numV (val l)) ∧ Below w.heap.size w w' := by
  have hD := h.below (below_alloc w (Obj.cells #[Value.int IntKind.u64 0, Value.int IntKind.u64 0, Value.int IntKind.u64 0, Value.int IntKind.u64 0] 41)) (Nat.le_refl _)
  have hR0 : Row (w.alloc (Obj.cells #[Value.int IntKind.u64 0, Value.int IntKind.u64 0, Value.int IntKind.u64 0, Value.int IntKind.u64 0] 41)) w.heap.size 4 := (row_new rfl).2 rfl
  go_enter Tryd.func45, Tryd.ntmps45
  go_wp2_with fail
  refine (ref_words A l c 4 _ hD (by omega) (by omega)).mono ?_
  rintro e w1 ⟨g, rfl, hR, hr, hg, hb1⟩
  have hRw := row_below hR0 hb1 (by simp)
  have hcs : Cells #[Value.int IntKind.u64 (wd (val l) 0 : Nat), Value.int IntKind.u64 (wd (val l) 1 : Nat), Value.int IntKind.u64 (wd (val l) 2 : Nat), Value.int IntKind.u64 (wd (val l) 3 : Nat)] 4 := by rw [arrK4]; exact arrK_cells _ _ _
  have hc : ∀ i < 4, w1.cell? ⟨g, i, none⟩ = some (.int .u64 (wd (val l) i)) := fun i hi => by rw [hR.cell, hr, arrK_at hi]
  have h0 := hc 0 (by omega)
  have h1 := hc 1 (by omega)
  have h2 := hc 2 (by omega)
  have h3 := hc 3 (by omega)
  have hb := (below_alloc w (Obj.cells #[Value.int IntKind.u64 0, Value.int IntKind.u64 0, Value.int IntKind.u64 0, Value.int IntKind.u64 0] 41)).trans (hb1.mono (by simp))
  clear hb1 hR0 hc hD hr
  go_wp2
  go_region
  go_wp2
  refine ret_row rfl Tryd.underlying41 rfl (by kernel_rfl) rfl ((row_setRow_same rfl hRw).2 hcs.1) rfl ?_
  rw [rowAt_setRow_same (w := w1.drew) hRw]
  exact ⟨by rw [arrK4]; rfl, below_setRow hb.drew (Nat.le_refl _)⟩

theorem val_take_succ (l : List Nat) (i : Nat) : val (l.take (i + 1)) = val (l.take i) + 65536 ^ i * (l[i]?.getD 0) := by
  rcases Nat.lt_or_ge i l.length with h | h
  · rw [List.take_succ_eq_append_getElem h, val_snoc, List.getElem?_eq_getElem h, List.length_take, Nat.min_eq_left (by omega)]; rfl
  · rw [List.take_of_length_le h, List.take_of_length_le (by omega), List.getElem?_eq_none h]; simp
theorem plus_step {l k L : List Nat} {i cy : Nat} (hL : L.length = i) (hv : val L + 65536 ^ i * cy = val (l.take i) + val (k.take i)) :
    val (L ++ [(cy + (l[i]?.getD 0 + k[i]?.getD 0)) % 65536]) + 65536 ^ (i + 1) * ((cy + (l[i]?.getD 0 + k[i]?.getD 0)) / 65536) = val (l.take (i + 1)) + val (k.take (i + 1)) := by
  rw [val_snoc, hL, val_take_succ, val_take_succ]
  generalize l[i]?.getD 0 = a
  generalize k[i]?.getD 0 = b
  have h1 : 65536 ^ (i + 1) * ((cy + (a + b)) / 65536) = 65536 ^ i * (65536 * ((cy + (a + b)) / 65536)) := by rw [Nat.pow_succ, Nat.mul_assoc]
  have h2 : 65536 ^ i * ((cy + (a + b)) % 65536) + 65536 ^ i * (65536 * ((cy + (a + b)) / 65536)) = 65536 ^ i * (cy + (a + b)) := by rw [← Nat.mul_add, Nat.mod_add_div]
  rw [Nat.mul_add, Nat.mul_add] at h2
  omega
theorem plus_carry {l k L : List Nat} {i cy : Nat} (hl : Sm l) (hk : Sm k) (h1 : l.length < i) (h2 : k.length < i) (hv : val L + 65536 ^ i * cy = val (l.take i) + val (k.take i)) : cy = 0 := by
  rw [List.take_of_length_le (by omega), List.take_of_length_le (by omega)] at hv
  have h3 := val_lt hl
  have h4 := val_lt hk
  have h5 : 65536 ^ l.length ≤ 65536 ^ (i - 1) := Nat.pow_le_pow_right (by omega) (by omega)
  have h6 : 65536 ^ k.length ≤ 65536 ^ (i - 1) := Nat.pow_le_pow_right (by omega) (by omega)
  have h7 : 65536 ^ i = 65536 ^ (i - 1) * 65536 := by rw [← Nat.pow_succ]; congr 1; omega
  rcases Nat.eq_zero_or_pos cy with h | h
  · exact h
  · have h8 : 65536 ^ i * 1 ≤ 65536 ^ i * cy := Nat.mul_le_mul_left _ h
    omega

theorem ref_Plus (A : Option Addr) (l : List Nat) (c : Nat) (B : Option Addr) (k : List Nat) (d : Nat) (w : World) (ha : Ds w A l c) (hb : Ds w B k d) (hl : l.length ≤ 1000000) (hk : k.length ≤ 1000000) :
    Calls Tryd.prog 42 #[.slice A l.length c, .slice B k.length d] w (RetN (val l + val k) w) := by
  go_enter Tryd.func42, Tryd.ntmps42
  go_wp2
  go_loopw [5, 6, 7] (fun v y i wr => ∃ (i' : Nat) (L : List Nat) (cy : Nat), i = .int .i64 i' ∧ y = .int .i64 cy ∧ cy ≤ 1 ∧ Own w w.heap.size 3 v (digV L) wr ∧ L.length ≤ i' ∧ i' ≤ L.length ∧ i' ≤ max l.length k.length + 1 ∧
    Hid (Sm L ∧ val L + 65536 ^ i' * cy = val (l.take i') + val (k.take i'))) (fun _ _ i _ => max l.length k.length + 1 - (intOf i).toNat)
  case atStart => exact ⟨0, [], 0, rfl, rfl, by omega, Own.start _ _, by simp, by simp, by omega, Sm.nil, by simp [val]⟩
  case round =>
    obtain ⟨i, L, cy, rfl, rfl, hcy, hO, hl1, hl2, him, hH⟩ := hrel
    have hDa := ha.below hO.bel (Nat.le_refl _)
    have hDb := hb.below hO.bel (Nat.le_refl _)
    have hda := digZ_lt ha.sm (i : Int)
    have hdb := digZ_lt hb.sm (i : Int)
    by_cases hgo : i < l.length ∨ i < k.length ∨ 0 < cy
    · have hmax : i ≤ max l.length k.length := by
        rcases Nat.lt_or_ge (max l.length k.length) i with h | h
        · have := plus_carry ha.sm hb.sm (by omega) (by omega) hH.out.2; omega
        · exact h
      rcases (by omega : i < l.length ∨ (¬ i < l.length ∧ i < k.length) ∨ (¬ i < l.length ∧ ¬ i < k.length ∧ 0 < cy)) with hg | ⟨hg1, hg2⟩ | ⟨hg1, hg2, hg3⟩
      all_goals
        clear hgo
        go_wp2_with (first
          | (go_at_call 66; (first | with_reducible refine (ref_digit A l c _ _ hDa).mono ?_ | with_reducible refine (ref_digit B k d _ _ hDb).mono ?_); rintro e w' ⟨rfl, rfl⟩)
          | (at_builtin; refine wpList_own1 (o := ⟨some 37, _, _, _, _, _⟩) rfl (.tmp 33) (.tmp 36) 89 rfl SI rfl hO (.int .i64 (((cy : Int) + ((digZ l i : Nat) + (digZ k i : Nat))) % 65536)) rfl rfl (by rw [digV_len]; unfold maxLen; omega) (by rw [digV_len]; omega) ?_; intro v1 w1 hO1 hg1 hat1; clear hg1 hat1))
        go_roundw
        case rel =>
          have hst := plus_step (by omega) hH.out.2
          rw [← digZ_nat, ← digZ_nat] at hst
          exact ⟨i + 1, L ++ [(cy + (digZ l i + digZ k i)) % 65536], (cy + (digZ l i + digZ k i)) / 65536, by go_num, by go_num, by omega, by rw [digV_snoc]; exact hO1, by simp; omega, by simp; omega, by omega, hH.out.1.append (Sm.one (Nat.mod_lt _ (by omega))), hst⟩
        case measure => simp [intOf]; omega
    · obtain rfl : cy = 0 := by omega
      have hg1 : ¬ i < l.length := by omega
      have hg2 : ¬ i < k.length := by omega
      obtain ⟨A', c', rfl, -, -⟩ := hO.form
      obtain ⟨hn, hD⟩ := ds_own hO hH.out.1
      have hbl := hO.bel
      rw [hn]
      clear hgo
      go_wp2_with (go_at_call 67; refine (ref_trim A' L c' _ hD).mono ?_; rintro e w' ⟨q, hq, rfl, hg, rfl⟩)
      go_ret
      have hv := hH.out.2
      rw [List.take_of_length_le (by omega), List.take_of_length_le (by omega), Nat.mul_zero, Nat.add_zero] at hv
      exact ⟨_, rfl, hv ▸ isN_trim hD hq hg, hbl⟩
end Go.Proofs.YtdlmamnnamlleaaDoor
namespace Go.Proofs.YtdlmamnnamlleaaDoor
open Go Go.RowKit

/-- Block g is a row of m integers f. -/
structure At (w : World) (g : Nat) (k : IntKind) (m : Nat) (f : Nat → Nat) : Prop where
  row : Row w g m
  eq : rowAt w g = arrK k m f
section
variable {w w' : World} {g m : Nat} {k : IntKind} {f f' : Nat → Nat}
theorem At.below {B : Nat} (h : At w g k m f) (hb : Below B w w') (hg : g < B) : At w' g k m f := ⟨row_below h.row hb hg, (rowAt_below hb hg).trans h.eq⟩
theorem At.step (h : At w g k m f) (hb : Below w.heap.size w w') : At w' g k m f := h.below hb h.row.lt
theorem At.cell (h : At w g k m f) {i : Nat} (hi : i < m) : w.cell? ⟨g, i, none⟩ = some (.int k (f i : Nat)) := by rw [h.row.cell, h.eq, arrK_at hi]
theorem At.new (t : TypeId) (hg : g = w.heap.size) : At (w.alloc (.cells (arrK k m f) t)) g k m f := ⟨(row_new hg).2 (arrK_size _ _ _), rowAt_new hg⟩
theorem At.old (h : At w g k m f) (o : Obj) : At (w.alloc o) g k m f := ⟨(row_old h.row.lt).2 h.row, (rowAt_old h.row.lt).trans h.eq⟩
theorem At.drew (h : At w g k m f) : At w.drew g k m f := ⟨h.row, h.eq⟩
theorem At.put (h : Row w g m) : At (w.setRow g (arrK k m f)) g k m f := ⟨(row_setRow_same rfl h).2 (arrK_size _ _ _), rowAt_setRow_same h⟩
theorem At.far (h : At w g k m f) {g' : Nat} {c : Array Value} (hg : g ≠ g') : At (w.setRow g' c) g k m f := ⟨(row_setRow_far hg).2 h.row, (rowAt_setRow_far hg).trans h.eq⟩
theorem At.farC (h : At w g k m f) {a : Addr} {v : Value} (hg : g ≠ a.block) : At (w.setCell a v) g k m f := ⟨row_setCell.2 h.row, (rowAt_setCell_far hg).trans h.eq⟩
theorem At.set (h : At w g k m f) (i v : Nat) : At (w.setCell ⟨g, i, none⟩ (.int k (v : Int))) g k m (upd f i v) := ⟨row_setCell.2 h.row, by rw [rowAt_setCell_same, h.eq, arrK_set]⟩
theorem At.congr (h : At w g k m f) (e : ∀ i < m, f i = f' i) : At w g k m f' := ⟨h.row, h.eq.trans (arrK_congr e)⟩
theorem At.lt (h : At w g k m f) : g < w.heap.size := h.row.lt
end
/-- Block g is the number n: of four words, of eight words. -/
abbrev NumAt (w : World) (g n : Nat) : Prop := At w g .u64 4 (wd n)
abbrev WideAt (w : World) (g n : Nat) : Prop := At w g .u64 8 (wd n)

theorem num_inj {a b : Nat} (ha : a < 2 ^ (64 * 4)) (hb : b < 2 ^ (64 * 4)) : (∀ i < 4, wd a i = wd b i) ↔ a = b := ⟨wd_inj ha hb, fun h _ _ => by rw [h]⟩
theorem eqlNum {a b : Nat} (ha : a < 2 ^ 256) (hb : b < 2 ^ 256) (W : World) : (binOp .eql 41 (.agg (arrK .u64 4 (wd a))) (.agg (arrK .u64 4 (wd b)))).run Tryd.prog W = .ok (.bool (decide (a = b))) W := by
  rw [run_eql_arrK Tryd.underlying41 Tryd.underlying39 (by kernel_rfl)]
  congr 2
  exact decide_eq_decide.2 (num_inj ha hb)
theorem neqNum {a b : Nat} (ha : a < 2 ^ 256) (hb : b < 2 ^ 256) (W : World) : (binOp .neq 41 (.agg (arrK .u64 4 (wd a))) (.agg (arrK .u64 4 (wd b)))).run Tryd.prog W = .ok (.bool (!decide (a = b))) W := by
  rw [run_neq_arrK Tryd.underlying41 Tryd.underlying39 (by kernel_rfl)]
  congr 3
  exact decide_eq_decide.2 (num_inj ha hb)
theorem zeroNum : #[Value.int IntKind.u64 0, Value.int IntKind.u64 0, Value.int IntKind.u64 0, Value.int IntKind.u64 0] = arrK .u64 4 (wd 0) := (arrK4 .u64 fun _ => 0).trans (arrK_congr fun i _ => (wd_zero i).symm)
theorem zeroWide : #[Value.int IntKind.u64 0, Value.int IntKind.u64 0, Value.int IntKind.u64 0, Value.int IntKind.u64 0, Value.int IntKind.u64 0, Value.int IntKind.u64 0, Value.int IntKind.u64 0, Value.int IntKind.u64 0] = arrK .u64 8 (wd 0) := (arrK8 .u64 fun _ => 0).trans (arrK_congr fun i _ => (wd_zero i).symm)
end Go.Proofs.YtdlmamnnamlleaaDoor
namespace Go.Proofs.YtdlmamnnamlleaaDoor
open Go Go.RowKit

/-- b over f, from o on, n places. -/
def cpF (f : Nat → Nat) (o n : Nat) (b : Nat → Nat) : Nat → Nat := fun p => if o ≤ p ∧ p < o + n then b (p - o) else f p
theorem putAt_arrK {k : IntKind} {N n : Nat} {b : Nat → Nat} : ∀ (m : Nat) (o s : Nat) (f : Nat → Nat), putAt (arrK k N f) o ((List.range' s m).map fun j => Value.int k (b j : Nat)) = arrK k N fun p => if o ≤ p ∧ p < o + m then b (p - o + s) else f p
  | 0, o, s, f => by
    show arrK k N f = _
    refine arrK_congr fun p _ => ?_
    rw [if_neg (by omega)]
  | m + 1, o, s, f => by
    rw [List.range'_succ, List.map_cons, putAt, arrK_set, putAt_arrK (n := n) m (o + 1) (s + 1)]
    refine arrK_congr fun p _ => ?_
    unfold upd
    by_cases h : o + 1 ≤ p ∧ p < o + 1 + m
    · rw [if_pos h, if_pos (by omega), show p - (o + 1) + (s + 1) = p - o + s by omega]
    · rw [if_neg h]
      by_cases h2 : p = o
      · subst h2
        rw [if_pos rfl, if_pos (by omega)]
        congr 1; omega
      · rw [if_neg h2, if_neg (by omega)]
theorem putAt_cpF {N n o : Nat} {f b : Nat → Nat} {k : IntKind} : putAt (arrK k N f) o ((List.range' 0 n).map fun j => Value.int k (b j : Nat)) = arrK k N (cpF f o n b) := by
  rw [putAt_arrK (n := 0)]
  rfl
theorem rng_at {n : Nat} {k : IntKind} {b : Nat → Nat} {j : Nat} {v : Value} (h : ((List.range' 0 n).map fun j => Value.int k (b j : Nat))[j]? = some v) : j < n ∧ v = .int k (b j : Nat) := by
  by_cases hj : j < n
  · rw [List.getElem?_map, List.getElem?_range' hj] at h
    simp only [Option.map_some, Option.some.injEq] at h
    exact ⟨hj, by rw [← h]; simp⟩
  · rw [List.getElem?_eq_none (by simp; omega)] at h
    cases h
section
variable {P : Program} {w : World} {g N : Nat} {f b : Nat → Nat} {k : IntKind} {e : TypeId}
theorem At.setCells (T : At w g k N f) (o n : Nat) : w.setCells g o ((List.range' 0 n).map fun j => Value.int k (b j : Nat)) = w.setRow g (arrK k N (cpF f o n b)) := by
  rw [setCells_row _ _ T.row, T.eq, putAt_cpF]
theorem At.has (T : At w g k N f) {i : Nat} (hi : i < N) : (w.cell? ⟨g, i, none⟩).isSome = true := by rw [T.cell hi]; rfl
theorem At.cp (T : At w g k N f) (o n : Nat) (b : Nat → Nat) : At (w.setRow g (arrK k N (cpF f o n b))) g k N (cpF f o n b) := At.put T.row
theorem run_copy_buf {dT sT ty : TypeId} (hu : P.underlying dT = some (.slice e)) (hs : (P.info? e).map (·.size) = some 1) (T : At w g k N f) {o n dl dc sl sc : Nat} {ad : Addr}
    (hb : ∀ j < n, w.cell? (ad.add j) = some (.int k (b j : Nat))) (hn : n = Nat.min sl dl) (ho : o + n ≤ N) :
    (Builtin.copy_ #[dT, sT] ty #[.slice (some ⟨g, o, none⟩) dl dc, .slice (some ad) sl sc]).run P w = .ok (.int .i64 (n : Nat)) (w.setRow g (arrK k N (cpF f o n b))) := by
  have h := run_copy_cells (P := P) w dT sT ty e g o dl dc ad sl sc ((List.range' 0 n).map fun j => Value.int k (b j : Nat)) hu hs (by simpa using hn)
    (fun j v hj => by obtain ⟨h1, h2⟩ := rng_at hj; rw [h2]; exact hb j h1) (fun j hj => T.has (by simp at hj; omega)) (fun j hj => T.row.frozen _)
    (fun v hv => by obtain ⟨j, -, rfl⟩ := List.mem_map.1 hv; rfl)
  rw [h, T.setCells]
  simp [goInt]
theorem run_app_buf {t ty : TypeId} {bytes : Nat} (S : SlT P t e 1 bytes) (T : At w g k N f) {n m c : Nat} {ad : Addr} (hb : ∀ j < m, w.cell? (ad.add j) = some (.int k (b j : Nat))) (hroom : n + m ≤ N) :
    (Builtin.append_ #[t, t] ty #[.slice (some ⟨g, 0, none⟩) n N, .slice (some ad) m c]).run P w = .ok (.slice (some ⟨g, 0, none⟩) (n + m) N) (w.setRow g (arrK k N (cpF f n m b))) := by
  obtain ⟨i, z, hi, -, hs, -⟩ := S.info
  have h := run_append_room_cells (P := P) w t ty e i S.under hi g 0 n N ad m c ((List.range' 0 m).map fun j => Value.int k (b j : Nat)) (by simp [hs])
    (fun j v hj => by obtain ⟨h1, h2⟩ := rng_at hj; rw [h2]; exact hb j h1) (fun v hv => by obtain ⟨j, -, rfl⟩ := List.mem_map.1 hv; rfl) hroom
    (fun j hj => by simp only [hs, Nat.zero_add, Nat.mul_one]; exact T.has (by simp at hj; omega)) (fun j hj => by simp only [hs, Nat.zero_add, Nat.mul_one]; exact T.row.frozen _)
  rw [h]
  simp only [hs, Nat.zero_add, Nat.mul_one]
  rw [T.setCells]
theorem run_app_none {t ty : TypeId} {bytes : Nat} (S : SlT P t e 1 bytes) {n c : Nat} (hA : n ≤ N) :
    (Builtin.append_ #[t, t] ty #[.slice (some ⟨g, 0, none⟩) n N, .slice none 0 c]).run P w = .ok (.slice (some ⟨g, 0, none⟩) n N) w := by
  obtain ⟨i, z, hi, -⟩ := S.info
  simp [Builtin.append_, run_underlying S.under, sizeOf, typeInfo, hi, Builtin.lenOf, Builtin.firstCells, hA, storeCells]
theorem wpList_appR {ops : Array Oper} {rest : List Oper} {o : Oper} {a : Act} {Q : Exit → Act → World → Prop} (hgd : o.guard = none) (s x : Operand) (t u : TypeId)
    (ho : o.op = .call { callee := .builtin .append, args := #[s, x], argTypes := #[t, u] }) {v1 v2 v : Value} {w' : World} (h1 : a.eval s = v1) (h2 : a.eval x = v2) (hrun : (Builtin.append_ #[t, u] o.type #[v1, v2]).run P w = .ok v w')
    (h : wpList P ops Q rest (a.put o.dst v) w') : wpList P ops Q (o :: rest) a w :=
  wpList_plain hgd fun _ hK => by
    unfold Oper.wp execOp
    simp only [ho, resolve, invoke, builtin, Sem.run_bind, Sem.run_pure, Result.andThen_ok, List.map_toArray, List.map_cons, List.map_nil, h1, h2, hrun]
    exact hK _ _ h
theorem wpList_copyR {ops : Array Oper} {rest : List Oper} {o : Oper} {a : Act} {Q : Exit → Act → World → Prop} (hgd : o.guard = none) (s x : Operand) (t u : TypeId)
    (ho : o.op = .call { callee := .builtin .copy, args := #[s, x], argTypes := #[t, u] }) {v1 v2 v : Value} {w' : World} (h1 : a.eval s = v1) (h2 : a.eval x = v2) (hrun : (Builtin.copy_ #[t, u] o.type #[v1, v2]).run P w = .ok v w')
    (h : wpList P ops Q rest (a.put o.dst v) w') : wpList P ops Q (o :: rest) a w :=
  wpList_plain hgd fun _ hK => by
    unfold Oper.wp execOp
    simp only [ho, resolve, invoke, builtin, Sem.run_bind, Sem.run_pure, Result.andThen_ok, List.map_toArray, List.map_cons, List.map_nil, h1, h2, hrun]
    exact hK _ _ h
end
/-- A slice of M bytes, those of f. -/
def BytesOk (f : Nat → Nat) (M : Nat) (w : World) (e : Ending) (w' : World) : Prop := ∃ g, e = .returned (.slice (some ⟨g, 0, none⟩) M M) ∧ At w' g .u8 M f ∧ Below w.heap.size w w'
def bLs (f : Nat → Nat) (n : Nat) : List UInt8 := (List.range n).map fun i => UInt8.ofNat (f i)
theorem bLs_len (f : Nat → Nat) (n : Nat) : (bLs f n).length = n := by simp [bLs]
theorem bLs_congr {f g : Nat → Nat} {n : Nat} (h : ∀ i < n, f i = g i) : bLs f n = bLs g n := by
  unfold bLs
  refine List.map_congr_left fun i hi => ?_
  rw [h i (by simpa using hi)]
theorem bLs_succ (f : Nat → Nat) (n : Nat) : bLs f (n + 1) = bLs f n ++ [UInt8.ofNat (f n)] := by simp [bLs, List.range_succ]
theorem bLs_add (f : Nat → Nat) (n m : Nat) : bLs f (n + m) = bLs f n ++ bLs (fun i => f (n + i)) m := by
  induction m with
  | zero => simp [bLs]
  | succ m ih => rw [← Nat.add_assoc, bLs_succ, ih, bLs_succ, List.append_assoc]
theorem bytesV_bLs {f : Nat → Nat} {n : Nat} (hf : ∀ i < n, f i < 256) : bytesV (bLs f n) = (arrK .u8 n f).toList := by
  refine List.ext_getElem? fun p => ?_
  by_cases hp : p < n
  · rw [Array.getElem?_toList (xs := arrK .u8 n f), arrK_at hp]
    have := hf p hp
    simp [bytesV, bLs, u8v, hp]
    omega
  · rw [Array.getElem?_toList (xs := arrK .u8 n f), Array.getElem?_eq_none (by rw [arrK_size]; omega), List.getElem?_eq_none (by rw [bytesV_length, bLs_len]; omega)]
theorem At.rdB {w : World} {g N n : Nat} {f : Nat → Nat} (T : At w g .u8 N f) (hn : n ≤ N) (hf : ∀ i < n, f i < 256) : Rd w (g + 1) (some ⟨g, 0, none⟩) (bytesV (bLs f n)) := fun j u hu => by
  rw [bytesV_bLs hf, Array.getElem?_toList] at hu
  have hj : j < n := by have := (Array.getElem?_eq_some_iff.1 hu).1; simpa [arrK_size] using this
  rw [arrK_at hj] at hu
  refine ⟨_, rfl, by simp, ?_⟩
  rw [show (Addr.mk g 0 none).add j = ⟨g, j, none⟩ by unfold Addr.add; split <;> simp_all, T.cell (by omega), ← hu]
theorem run_make_buf {P : Program} {t e : TypeId} (ht : P.underlying t = some (.slice e)) (hinfo : (P.info? e).map (fun i => (i.zero, i.size, i.bytes)) = some (some (.int .u8 0), 1, 1)) (kl kc : IntKind) {n M : Nat} (hn : n ≤ M) (hM : M ≤ 281474976710656) (w : World) :
    (Instr.makeSlice t (.int kl (n : Int)) (.int kc (M : Int))).run P w = .ok (.slice (some ⟨w.heap.size, 0, none⟩) n M) (w.alloc (.cells (arrK .u8 M fun _ => 0) e)) := by
  obtain ⟨i, hi, hzz⟩ := Option.map_eq_some_iff.1 hinfo
  simp only [Prod.mk.injEq] at hzz
  obtain ⟨hz, hs, hb⟩ := hzz
  have hr := run_make (P := P) w t e i (.int .u8 0) ht hi hz kl kc n M (by omega) (by omega) (by rw [hb]; omega) (by omega)
  simp only [Int.toNat_natCast, hs, Nat.mul_one] at hr
  rw [hr, ← made_arrK]
  rfl
theorem run_app_bytes {P : Program} {w : World} {g N : Nat} {f : Nat → Nat} {t ty e : TypeId} {bytes : Nat} (S : SlT P t e 1 bytes) (T : At w g .u8 N f) {B n c : Nat} {A : Option Addr} {l : List UInt8} (hA : Rd w B A (bytesV l)) (hroom : n + l.length ≤ N) :
    (Builtin.append_ #[t, t] ty #[.slice (some ⟨g, 0, none⟩) n N, .slice A l.length c]).run P w = .ok (.slice (some ⟨g, 0, none⟩) (n + l.length) N) (w.setRow g (arrK .u8 N (cpF f n l.length fun p => (l[p]?.getD 0).toNat))) := by
  cases A with
  | none =>
    have hl : l = [] := by
      cases l with
      | nil => rfl
      | cons x r => obtain ⟨ad, h, -⟩ := hA 0 (u8v x) rfl; cases h
    subst hl
    obtain ⟨cs, t', hg, -⟩ := T.row
    have e : cs = arrK .u8 N f := by rw [← T.eq]; simp [rowAt, hg]
    rw [show cpF f n ([] : List UInt8).length (fun p => (([] : List UInt8)[p]?.getD 0).toNat) = f by funext p; unfold cpF; rw [if_neg (by intro h; simp at h; omega)], ← e, setRow_self w g cs t' (0, 0) hg]
    exact run_app_none S (by simpa using hroom)
  | some ad =>
    refine run_app_buf S T (fun j hj => ?_) hroom
    exact hA.all (by simp [bytesV, u8v, hj])
theorem run_copy_bytes {P : Program} {w : World} {g N : Nat} {f : Nat → Nat} {e dT sT ty : TypeId} (hu : P.underlying dT = some (.slice e)) (hs : (P.info? e).map (·.size) = some 1) (T : At w g .u8 N f) {B n o dl dc sc : Nat} {A : Option Addr} {l : List UInt8} (hA : Rd w B A (bytesV l))
    (hn : n = Nat.min l.length dl) (hn0 : 0 < n) (ho : o + n ≤ N) :
    (Builtin.copy_ #[dT, sT] ty #[.slice (some ⟨g, o, none⟩) dl dc, .slice A l.length sc]).run P w = .ok (.int .i64 (n : Nat)) (w.setRow g (arrK .u8 N (cpF f o n fun p => (l[p]?.getD 0).toNat))) := by
  have hnl : n ≤ l.length := by rw [hn]; exact Nat.min_le_left _ _
  obtain ⟨ad, rfl, -, -⟩ := hA.at_ (k := 0) (by rw [bytesV_length]; omega)
  refine run_copy_buf hu hs T (fun j hj => ?_) hn ho
  exact hA.all (by rw [bytesV, List.getElem?_map, List.getElem?_eq_getElem (by omega)]; simp [u8v])
theorem bLs_byteAt (l : List UInt8) : bLs (fun p => (l[p]?.getD 0).toNat) l.length = l := by
  apply List.ext_getElem
  · exact bLs_len _ _
  · intro i h1 h2
    simp [bLs, h2]
theorem add0 (g j : Nat) (o : Nat) : (Addr.mk g o none).add j = ⟨g, o + j, none⟩ := by unfold Addr.add; split <;> simp_all
end Go.Proofs.YtdlmamnnamlleaaDoor
namespace Go.Proofs.YtdlmamnnamlleaaDoor
open Go.ChangeShapes Go.WideShapes Go.ChangeAt Go.RowKit
set_option maxHeartbeats 2000000
set_option maxRecDepth 100000
theorem bytesF_rep (n i : Nat) : bytesF (List.replicate n 0) i = 0 := by
  unfold bytesF
  rw [List.getElem?_replicate]
  split <;> rfl
theorem z32_row : arrK .u8 32 (fun _ => 0) = dgA z32 := by
  unfold dgA
  exact arrK_congr fun i _ => (bytesF_rep 32 i).symm
theorem foldT_zero (K : Nat → W32) (key : List UInt8) (recs : List (List UInt8)) : foldT K key (recs.take 0) = ([], z32) := rfl
theorem make_z32 (w : World) : (Instr.makeSlice 22 (.int .i64 32) (.int .i64 32)).run Tryd.prog w = .ok (.slice (some ⟨w.heap.size, 0, none⟩) 32 32) (w.alloc (.cells (dgA z32) 5)) := by
  rw [← z32_row]
  exact run_make_buf Tryd.underlying22 (by kernel_rfl) .i64 .i64 (n := 32) (M := 32) (Nat.le_refl _) (by omega) w
theorem bs_z32 (w : World) : Bs (w.alloc (.cells (dgA z32) 5)) (some ⟨w.heap.size, 0, none⟩) z32 32 := rd_of_row rfl ((row_new rfl).2 (dgA_cells z32).1) (rowAt_new rfl)
theorem conv_z32 (w : World) : (convert 22 9 (.slice (some ⟨w.heap.size, 0, none⟩) 32 32)).run Tryd.prog (w.alloc (.cells (dgA z32) 5)) = .ok (strV z32) (w.alloc (.cells (dgA z32) 5)) := (bs_z32 w).conv
theorem foldT_len (K : Nat → W32) (key : List UInt8) (recs : List (List UInt8)) (h : ∀ r ∈ recs, r.length ≤ 4064) : (foldT K key recs).1.length ≤ recs.length * 4100 := by
  unfold foldT
  suffices hs : ∀ (l : List (List UInt8)) (s : List UInt8 × List UInt8), (∀ r ∈ l, r.length ≤ 4064) → (l.foldl (fun s r => (s.1 ++ tagB 1 (markL K key (s.2 ++ r) ++ r), markL K key (s.2 ++ r))) s).1.length ≤ s.1.length + l.length * 4100 by
    have := hs recs ([], z32) h
    simpa using this
  intro l
  induction l with
  | nil => intro s _; simp
  | cons r l ih =>
    intro s hl
    rw [List.foldl_cons]
    have h1 := ih (s.1 ++ tagB 1 (markL K key (s.2 ++ r) ++ r), markL K key (s.2 ++ r)) (fun x hx => hl x (by simp [hx]))
    have h2 := (tagB_len (t := 1) (l := markL K key (s.2 ++ r) ++ r)).2
    have h3 := hl r (by simp)
    rw [List.length_append, mark_len] at h2
    simp only [List.length_append] at h1
    rw [List.length_cons]
    omega
attribute [local irreducible] arrV dgA sha macA macZ b64A rdrA tapeL foldT
attribute [local go_sem] bs_app
theorem ref_TapeText (K : Nat → W32) (key : List UInt8) (A : Option Addr) (recs : List (List UInt8)) (n c : Nat) (w : World) (hT : Tabs K w) (hk : key.length ≤ 576460752303423488) (hA : Rd w w.heap.size A (recs.map strV)) (hn : recs.length = n) (hn2 : n ≤ 140737488351232) (he : ∀ r ∈ recs, r.length ≤ 4064) :
    Calls Tryd.prog 31 #[strV key, .slice A n c] w fun e w' => e = .returned (strV (foldT K key recs).1) ∧ Below w.heap.size w w' := by
  have hTh := Lib.hid hT
  have hAh := Lib.hid hA
  have hnh := Lib.hid hn
  have heh := Lib.hid he
  have hlen := Lib.hid (fun i => show (foldT K key (recs.take i)).1.length ≤ i * 4100 from Nat.le_trans (foldT_len K key _ fun r hr => he r (List.mem_of_mem_take hr)) (Nat.mul_le_mul_right _ (by rw [List.length_take]; omega)))
  clear hT hA hn he
  go_enter Tryd.func31, Tryd.ntmps31
  go_upto_region 1 with (fail)
  generalize ha0 : Act.mk _ _ = a0
  have hz0 : a0.tmps.size = 30 := by rw [← ha0]; rfl
  have hha0 := Lib.hid ha0
  clear ha0
  refine wp_region_calm (fun jx_ => match jx_ with | 0 => SRel.bs z32 | 1 => SRel.is (strV z32) | 2 => SRel.is (.string ⟨#[]⟩) | 3 => SRel.is (strV z32) | _ => SRel.any) (by kernel_rfl) (by kernel_rfl) (by kernel_rfl) (slotsOk_of hz0 (by kernel_rfl)) ⟨?_, ?_, ?_, ?_, trivial⟩ ?_
  · refine calm_step rfl fun a ω κ hb hu hc hK => ?_
    have hk := Lib.hid (fun v w1 (hv : (SRel.bs z32).p v w1) (h : Below ω.heap.size ω w1) => hK v w1 hv h)
    clear hK hu hc
    have q1 := make_z32 ω
    go_simp
    exact hk.out _ _ ⟨_, 32, rfl, bs_z32 ω⟩ (below_alloc _ _)
  · refine calm_step rfl fun a ω κ hb hu hc hK => ?_
    have h10 : (SRel.bs z32).p (a.tmps[10]?.getD undef) ω := hc 0 10 rfl rfl
    have hk := Lib.hid (fun w1 (h : Below ω.heap.size ω w1) => hK (strV z32) w1 rfl h)
    clear hK hu hc
    obtain ⟨A9, c9, e9, hB9⟩ := h10
    have q1 := hB9.conv
    go_simp
    exact hk.out _ (Below.refl _ _)
  · refine calm_step rfl fun a ω κ hb hu hc hK => ?_
    have hk := Lib.hid (fun w1 (h : Below ω.heap.size ω w1) => hK (.string ⟨#[]⟩) w1 rfl h)
    clear hK hu hc
    go_simp
    exact hk.out _ (Below.refl _ _)
  · refine calm_step rfl fun a ω κ hb hu hc hK => ?_
    have h11 : a.tmps[11]?.getD undef = strV z32 := hc 1 11 rfl rfl
    have hk := Lib.hid (fun w1 (h : Below ω.heap.size ω w1) => hK (strV z32) w1 rfl h)
    clear hK hu hc
    go_simp
    exact hk.out _ (Below.refl _ _)
  · intro a1 w1 hb1 hu1 hsz1 hdf1 hc1
    have ha0 := hha0.out
    subst ha0
    have he := act_patch (n := 30) [false, false, false, false, false, true, true, false, false, false, true, true, false, false, false, false, false, false, false, false, false, false, false, false, false, false, false, false, false, false] rfl (by kernel_rfl) hu1 hsz1 hdf1
    simp only [patch, cond_true, cond_false, Nat.reduceAdd] at he
    have hkn5 : a1.tmps[5]?.getD undef = .string ⟨#[]⟩ := hc1 2 5 rfl
    have hkn6 : a1.tmps[6]?.getD undef = strV z32 := hc1 3 6 rfl
    have hL := Lib.hid hb1
    clear hb1 hu1 hsz1 hdf1 hc1 hz0 hha0 
    rw [he]
    clear he
    rw [hkn5]
    rw [hkn6]
    clear hkn5 hkn6
    generalize a1.tmps[10]?.getD undef = x10 at *
    generalize a1.tmps[11]?.getD undef = x11 at *
    go_upto_region 3 with (fail)
    go_loopw [5, 6, 14] (fun vs vl vi wr => ∃ i : Nat, vi = .int .i64 i ∧ vs = strV (foldT K key (recs.take i)).1 ∧ vl = strV (foldT K key (recs.take i)).2 ∧ i ≤ n ∧ Hid (Below w.heap.size w wr)) (fun _ _ vi _ => n - (intOf vi).toNat)
    case atStart => exact ⟨0, rfl, by rw [foldT_zero], by rw [foldT_zero], Nat.zero_le _, hL⟩
    case round =>
      clear hL
      obtain ⟨i, rfl, rfl, rfl, hi, hL⟩ := hrel
      by_cases hin : i = n
      · subst hin
        have d1 : decide ((i : Int) < (i : Int)) = false := by simp
        have hE := Lib.hid (show recs.take i = recs from List.take_of_length_le (Nat.le_of_eq hnh.out))
        go_wp2_with fail
        go_ret
        exact ⟨by rw [hE.out] <;> rfl, hL.out⟩
      · have d1 : decide ((i : Int) < (n : Int)) = true := by simp; omega
        have hil : i < n := by omega
        have hii : (i : Int) < (n : Int) := by omega
        have hi0 : (0 : Int) ≤ (i : Int) := by omega
        have hir : i < recs.length := by rw [hnh.out]; exact hil
        obtain ⟨ad, hA2, hb, hc⟩ := (hAh.out.below hL.out).at_ (k := i) (by simpa using hir)
        subst hA2
        rw [List.getElem_map] at hc
        have he := heh.out recs[i] (List.getElem_mem hir)
        have hsn := foldT_snoc K key (recs.take i) recs[i]
        rw [← List.take_succ_eq_append_getElem hir] at hsn
        have hl1 := hlen.out i
        have hl2 := foldT_last K key (recs.take i)
        obtain ⟨rec, hre⟩ : ∃ r, recs[i] = r := ⟨_, rfl⟩
        rw [hre] at hc he hsn
        obtain ⟨⟨s, la⟩, hF⟩ : ∃ F, foldT K key (recs.take i) = F := ⟨_, rfl⟩
        rw [hF] at hsn hl1 hl2
        dsimp only at hsn hl1 hl2
        have hFh := Lib.hid hF
        rw [hF]
        have kR := Lib.hid (ref_Record K key la rec wr (hTh.out.below hL.out (Nat.le_refl _)) hk (by omega) he)
        have hml := mark_len K key (la ++ rec)
        obtain ⟨m, hm⟩ : ∃ m, markL K key (la ++ rec) = m := ⟨_, rfl⟩
        rw [hm] at hsn kR hml
        have htl := (tagB_len (t := 1) (l := m ++ rec)).2
        rw [List.length_append, hml] at htl
        obtain ⟨b, hb2⟩ : ∃ b, tagB 1 (m ++ rec) = b := ⟨_, rfl⟩
        rw [hb2] at hsn kR htl
        have hadd : s.length + b.length ≤ 9223372036854775807 := by
          have : i * 4100 ≤ 140737488351232 * 4100 := Nat.mul_le_mul_right _ (by omega)
          omega
        have hsnh := Lib.hid hsn
        clear hF hsn hl1 hl2 he hm hb2 htl hre hml
        dsimp only
        go_wp2_with fail
        refine kR.out.mono ?_
        rintro e w1 ⟨rfl, hb1⟩
        have hL1 := Lib.hid (below_step hb1 hL.out (Nat.le_refl _))
        clear hb1 kR
        dsimp only
        go_wp2_with fail
        go_roundw
        case rel => exact ⟨i + 1, by go_num, by rw [hsnh.out] <;> rfl, by rw [hsnh.out], hil, hL1⟩
        case measure => simp [intOf]; omega
end Go.Proofs.YtdlmamnnamlleaaDoor
namespace Go.Proofs.YtdlmamnnamlleaaDoor
open Go.ChangeShapes Go.WideShapes Go.ChangeAt Go.RowKit
set_option maxHeartbeats 2000000
set_option maxRecDepth 100000
theorem SStr : SlT Tryd.prog 27 9 1 16 := SlT.mk' Tryd.underlying27 (by kernel_rfl) (by omega)
def RdTR (K : Nat → W32) (key t : List UInt8) (w : World) (e : Ending) (w' : World) : Prop :=
  ∃ (v : Value) (recs : List (List UInt8)) (p : Nat) (z : Int) (last : List UInt8), e = .returned (.tuple #[v, .int .i64 (p : Nat), .int .i64 z]) ∧ tapeL K key t (t.length + 1) 0 z32 [] = (recs, p, z, last) ∧ Own w w.heap.size 9 v (recs.map strV) w' ∧ TpOk K key t p last recs
theorem rdTR {K : Nat → W32} {key t : List UInt8} {w w' : World} {v : Value} {recs : List (List UInt8)} {p : Nat} {z u : Int} {last : List UInt8} (h : tapeL K key t (t.length + 1) 0 z32 [] = (recs, p, z, last)) (hz : z = u) (hO : Own w w.heap.size 9 v (recs.map strV) w') (hT : TpOk K key t p last recs) :
    RdTR K key t w (.returned (.tuple #[v, .int .i64 (p : Nat), .int .i64 u])) w' := ⟨v, recs, p, z, last, by rw [hz], h, hO, hT⟩
attribute [local irreducible] arrV dgA sha macA macZ b64A rdrA tapeL foldT
attribute [local go_sem] bs_app
theorem ref_ReadTape (K : Nat → W32) (t key : List UInt8) (w : World) (hT : Tabs K w) (hk : key.length ≤ 576460752303423488) (htl : t.length ≤ 140737488351232) :
    Calls Tryd.prog 8 #[strV t, strV key] w (RdTR K key t w) := by
  obtain ⟨R, hRe⟩ : ∃ r, tapeL K key t (t.length + 1) 0 z32 [] = r := ⟨_, rfl⟩
  have hRh := Lib.hid hRe
  have hTh := Lib.hid hT
  have hO0 := Own.start w 9
  have hm := fun W => make_z32 W
  have hcv := fun W => conv_z32 W
  clear hRe hT
  go_enter Tryd.func8, Tryd.ntmps8
  go_upto_region 4 with (fail)
  have hL0 := Lib.hid ((hO0.alloc (.cells (dgA z32) 5)))
  clear hO0 hm hcv
  generalize w.alloc _ = w00 at *
  go_loopw [7, 8, 9] (fun v vl vp wr => ∃ (f : Nat) (recs : List (List UInt8)) (p : Nat) (last : List UInt8), vp = .int .i64 p ∧ vl = strV last ∧ Hid (Own w w.heap.size 9 v (recs.map strV) wr) ∧ Hid (TpOk K key t p last recs) ∧ Hid (t.length < f + p ∧ tapeL K key t f p last recs = R)) (fun _ _ vp _ => t.length + 1 - (intOf vp).toNat)
  case atStart => exact ⟨t.length + 1, [], 0, z32, rfl, rfl, hL0, Lib.hid (TpOk.start K key t), Lib.hid ⟨by omega, hRh.out⟩⟩
  case round =>
    clear hL0
    obtain ⟨f, recs, p, last, rfl, rfl, hOw, hO, hF⟩ := hrel
    obtain ⟨vA, vc, hve, -, -⟩ := hOw.out.form
    subst hve
    have hp0 : (0 : Int) ≤ (p : Int) := by omega
    have hcnt := Lib.hid (show recs.length * 34 ≤ 140737488351232 by have := hO.out.cnt; have := hO.out.le; omega)
    by_cases hp : t.length ≤ p
    · have d1 : decide ((p : Int) < (t.length : Int)) = false := by simp; omega
      have d2 : ¬ (p : Int) < (t.length : Int) := by omega
      have hE := Lib.hid (show tapeL K key t (t.length + 1) 0 z32 [] = (recs, p, 0, last) by rw [hRh.out, ← hF.out.2]; exact tapeL_end hp)
      go_wp2_with fail
      go_returns
      exact rdTR hE.out rfl (by simpa using hOw.out) hO.out
    · have d1 : decide ((p : Int) < (t.length : Int)) = true := by simp; omega
      have d2 : (p : Int) < (t.length : Int) := by omega
      have hple : (p : Int) ≤ (t.length : Int) := by omega
      have hs1 := fun V => str_from (P := Tryd.prog) (t := 9) Tryd.underlying9 t (t.drop p) (p : Int) (by omega) (by omega) (by simp) V
      have kF0 := ref_FirstItem (t.drop p) wr (by rw [List.length_drop]; unfold maxLen; omega)
      unfold Fst at kF0
      obtain ⟨tg, l, n, z, hFe⟩ : ∃ tg l n z, firstS (t.drop p) = ((tg, l), n, z) := ⟨_, _, _, _, rfl⟩
      rw [hFe] at kF0
      obtain ⟨td, htd⟩ : ∃ d, t.drop p = d := ⟨_, rfl⟩
      rw [htd] at kF0 hs1
      have hFh := Lib.hid hFe
      have hTd := Lib.hid htd
      have kF := Lib.hid kF0
      clear kF0 hFe htd
      go_upto_region 5 with (fail)
      go_wp2_with fail
      refine kF.out.mono ?_
      rintro e w1 ⟨A2, c2, rfl, hr2, hc2, hc3, hfar, hb1⟩
      replace hOw := Lib.hid (hOw.out.below hb1 (Nat.le_refl _))
      have hXb := Lib.hid (show Bs w1 A2 l c2 from ⟨hr2, hc2, by unfold maxLen at hc3; exact hc3⟩)
      clear kF hr2 hfar hb1 d1 d2 hs1 hc3
      dsimp only
      by_cases hz : z = 0
      · subst hz
        go_upto_region 6 with (fail)
        have hbA := below_alloc w1 (Obj.cells #[Value.int IntKind.u8 (tg.toNat : Int), Value.slice A2 l.length c2] 71)
        have hxc : (w1.alloc (Obj.cells #[Value.int IntKind.u8 (tg.toNat : Int), Value.slice A2 l.length c2] 71)).cell? ⟨w1.heap.size, 0, none⟩ = some (.int .u8 (tg.toNat : Int)) ∧ (w1.alloc (Obj.cells #[Value.int IntKind.u8 (tg.toNat : Int), Value.slice A2 l.length c2] 71)).cell? ⟨w1.heap.size, 1, none⟩ = some (.slice A2 l.length c2) := by
          refine ⟨?_, ?_⟩ <;> (rw [World.cell?_alloc_at _ _ _ _ rfl]; rfl)
        replace hOw := Lib.hid (hOw.out.below hbA (Nat.le_refl _))
        replace hXb := Lib.hid (hXb.out.step hbA)
        clear hbA
        generalize w1.alloc _ = w2 at *
        generalize w1.heap.size = g5 at *
        obtain ⟨x0, x1⟩ := hxc
        by_cases hx : tg ≠ 1 ∨ l.length < 32
        · have hE := Lib.hid (show tapeL K key t (t.length + 1) 0 z32 [] = (recs, p, 4, last) by rw [hRh.out, ← hF.out.2]; exact tapeL_form hF.out.1 hp hFh.out hx)
          clear hp
          rcases hx with hx | hx
          · have hx1 : ((tg.toNat : Int) != 1) = true := by
              rw [bne_iff_ne]
              intro e
              exact hx (by rw [← UInt8.toNat_inj]; show tg.toNat = 1; omega)
            clear hx
            go_wp2_with fail
            go_returns
            exact rdTR hE.out rfl (by simpa using hOw.out) hO.out
          · obtain ⟨bq, hbq⟩ : ∃ b, ((tg.toNat : Int) != 1) = b := ⟨_, rfl⟩
            have hl1 : decide ((l.length : Int) < 32) = true := by simp; omega
            have hl2 : (l.length : Int) < 32 := by omega
            clear hx
            cases bq
            · go_wp2_with fail
              go_returns
              exact rdTR hE.out rfl (by simpa using hOw.out) hO.out
            · go_wp2_with fail
              go_returns
              exact rdTR hE.out rfl (by simpa using hOw.out) hO.out
        · have ht1 : tg = 1 := by
            by_cases e : tg = 1
            · exact e
            · exact absurd (.inl e) hx
          have hl32 : 32 ≤ l.length := by
            rcases Nat.lt_or_ge l.length 32 with e | e
            · exact absurd (.inr e) hx
            · exact e
          have hxh := Lib.hid hx
          have hph := Lib.hid hp
          have hx1 : ((tg.toNat : Int) != 1) = false := by subst ht1; rfl
          have hl1 : decide ((l.length : Int) < 32) = false := by simp; omega
          have hl2 : ¬ (l.length : Int) < 32 := by omega
          obtain ⟨A3, hs3, hs4⟩ := sl_from SBc A2 l.length c2 (l.length - 32) (32 : Int) (by omega) (by omega) (by simp) hc2
          rw [show ((32 : Int)).toNat = 32 from rfl] at hs3 hs4
          have hne : t.drop p ≠ [] := fun e => by have h8 := congrArg List.length e; rw [List.length_drop] at h8; simp at h8; omega
          obtain ⟨f1, f2, f3, f4⟩ := first_enc hFh.out hne
          have f5 := (tagB_len (t := tg) (l := l)).1
          rw [List.length_drop] at f2
          obtain ⟨q, hq⟩ : ∃ q, l.drop 32 = q := ⟨_, rfl⟩
          have hql : q.length = l.length - 32 := by rw [← hq, List.length_drop]
          have hqh := Lib.hid hq
          have hB3 : Bs w2 A3 q (c2 - 32) := ⟨by
            have := hs4 w2 w2.heap.size (bytesV l) (by rw [bytesV_length, Nat.mul_one]) hXb.out.rd
            rwa [Nat.mul_one, show (bytesV l).drop 32 = bytesV q by rw [← hq]; simp [bytesV, List.map_drop]] at this, by rw [hql]; omega, by have := hXb.out.mx; omega⟩
          rw [← hql] at hs3
          have hcv := hB3.conv
          have kR0 := fun V (hb : Below w2.heap.size w2 V) => ref_Record K key last q V ((hTh.out.below hOw.out.bel (Nat.le_refl _)).step hb) hk (by have h9 := foldT_last K key recs; rw [hO.out.fold] at h9; exact Nat.le_of_eq h9) (by rw [hql]; omega)
          have hml := mark_len K key (last ++ q)
          have hmd := Lib.hid (show markL K key (last ++ q) = markL K key (last ++ l.drop 32) by rw [hq])
          obtain ⟨m, hm⟩ : ∃ m, markL K key (last ++ q) = m := ⟨_, rfl⟩
          rw [hm] at kR0 hml hmd
          have hlm := Lib.hid (show m ++ q = l ↔ l.take 32 = m by
            constructor
            · intro e
              rw [← e, List.take_left' hml]
            · intro e
              rw [← e, ← hq, List.take_append_drop])
          have hmq : (m ++ q).length = l.length := by rw [List.length_append, hml, hql]; omega
          have hts := tagB_same (t := 1) hmq
          have hf1 : td.take n = tagB 1 l := by rw [← hTd.out, f1, ht1]
          obtain ⟨b, hb⟩ : ∃ b, tagB 1 (m ++ q) = b := ⟨_, rfl⟩
          obtain ⟨d, hd⟩ : ∃ b, tagB 1 l = b := ⟨_, rfl⟩
          rw [hb] at kR0 hts
          rw [hd] at hts hf1
          have kR := Lib.hid kR0
          have hpn : (p : Int) + (n : Int) ≤ (t.length : Int) := by omega
          have hwr : IntKind.i64.wrap ((p : Int) + (n : Int)) = (p : Int) + (n : Int) := by rw [IntKind.wrap_i64]; omega
          have hs5 := fun V => str_sl (P := Tryd.prog) (t := 9) Tryd.underlying9 t d (p : Int) ((p : Int) + (n : Int)) (by omega) (by omega) (by omega) (by rw [show ((p : Int)).toNat = p by simp, show ((p : Int) + (n : Int)).toNat - p = n by omega, hTd.out]; exact hf1) V
          have hnn := Lib.hid (And.intro hpn (show 0 < n by omega))
          clear hx hp ht1 hs4 kR0 hm hB3 hb hd hf1 f1 f2 f3 f4 f5 hne hmq hql hq hml
          go_upto_region 12 with (fail)
          go_wp2_with fail
          refine (kR.out w2 (Below.refl _ _)).mono ?_
          rintro e w3 ⟨rfl, hb3⟩
          replace hOw := Lib.hid (hOw.out.below hb3 (Nat.le_refl _))
          clear hb3 kR x0 x1 hx1 hl1 hl2 hs3 hcv
          dsimp only
          go_upto_region 13 with (fail)
          by_cases hbd : b = d
          · have hme : l.take 32 = m := hlm.out.1 (hts.1 hbd)
            subst hbd
            have hmeq : l.take 32 = markL K key (last ++ l.drop 32) := by rw [← hmd.out]; exact hme
            obtain ⟨f', hf', hFn⟩ := tapeL_next hF.out.1 hph.out hFh.out hxh.out hmeq (recs := recs)
            have hON := hO.out.next hph.out hFh.out hxh.out hmeq
            rw [← hmd.out] at hFn hON
            rw [hqh.out] at hFn hON
            have hNx := Lib.hid (And.intro hf' (And.intro (hFn.symm.trans hF.out.2) hON))
            obtain ⟨pn, hpnE⟩ : ∃ x, p + n = x := ⟨_, rfl⟩
            have hpi : (p : Int) + (n : Int) = (pn : Int) := by omega
            rw [hpi] at hwr hs5 hpn
            rw [hpnE] at hNx
            have hpl := Lib.hid (show pn ≤ t.length ∧ p < pn from ⟨by omega, by have := hnn.out.2; omega⟩)
            have hOw2 := Lib.hid (show Own w w.heap.size 9 (.slice vA recs.length vc) (recs.map strV) w3 from by simpa using hOw.out)
            clear hme hmeq hf' hFn hON hpnE hts hlm hxh hmd hFh hTd hF hO hph hOw
            go_upto_region 16 with (at_builtin; refine wpList_own1 rfl (.tmp 66) (.tmp 68) 27 rfl SStr rfl hOw2.out (strV q) rfl rfl (by rw [List.length_map]; have := hcnt.out; unfold maxLen; omega) (by rw [List.length_map]; have := hcnt.out; omega) ?_; intro v1 w4 hO4 hg4 hat4; have hO4h := Lib.hid hO4; clear hO4 hg4 hat4)
            go_wp2_with fail
            go_roundw
            case rel => exact ⟨f', recs ++ [q], pn, m, by go_num, rfl, Lib.hid (by rw [List.map_append]; exact hO4h.out), Lib.hid hNx.out.2.2, Lib.hid ⟨hNx.out.1, hNx.out.2.1⟩⟩
            case measure => simp [intOf]; have := hpl.out; omega
          · have hE := Lib.hid (show tapeL K key t (t.length + 1) 0 z32 [] = (recs, p, 5, last) by rw [hRh.out, ← hF.out.2]; exact tapeL_sum hF.out.1 hph.out hFh.out hxh.out (by rw [← hmd.out]; exact fun e => hbd (hts.2 (hlm.out.2 e))))
            have hbe : (b == d) = false := by simpa using hbd
            clear hbd hts
            go_wp2_with fail
            go_returns
            exact rdTR hE.out rfl (by simpa using hOw.out) hO.out
      · have hz1 : (z != 0) = true := by simpa using hz
        have hE := Lib.hid (show tapeL K key t (t.length + 1) 0 z32 [] = (recs, p, z, last) by rw [hRh.out, ← hF.out.2]; exact tapeL_err hF.out.1 hp hFh.out hz)
        have hOw2 := Lib.hid (hOw.out.alloc (Obj.cells #[Value.int IntKind.u8 (tg.toNat : Int), Value.slice A2 l.length c2] 71))
        clear hp hz hOw
        go_wp2_with fail
        go_returns
        exact rdTR hE.out rfl (by simpa using hOw2.out) hO.out
end Go.Proofs.YtdlmamnnamlleaaDoor
namespace Go.Proofs.YtdlmamnnamlleaaDoor
open Go.ChangeShapes Go.WideShapes Go.ChangeAt Go.RowKit
set_option maxHeartbeats 2000000
set_option maxRecDepth 100000
attribute [local irreducible] arrV dgA sha macA macZ b64A rdrA tapeL foldT
attribute [local go_sem] bs_app
theorem ref_Longer (K : Nat → W32) (t key rec : List UInt8) (w : World) (hT : Tabs K w) (hk : key.length ≤ 576460752303423488) (htl : t.length ≤ 140737488351232) (hrl : rec.length ≤ 140737488351232) :
    Calls Tryd.prog 10 #[strV t, strV key, strV rec] w fun e w' => e = .returned (.tuple #[strV (lonL K key t rec).1, .int .i64 (lonL K key t rec).2]) ∧ Below w.heap.size w w' := by
  by_cases h4 : 4064 < rec.length
  · rw [lonL_large h4]
    have d1 : decide ((rec.length : Int) > 4064) = true := by simp; omega
    have d2 : (4064 : Int) < (rec.length : Int) := by omega
    clear hT h4
    go_enter Tryd.func10, Tryd.ntmps10
    go_wp2_with fail
    go_ret2
    exact ⟨rfl, Below.refl _ _⟩
  · have d1 : decide ((rec.length : Int) > 4064) = false := by simp; omega
    have d2 : ¬ (4064 : Int) < (rec.length : Int) := by omega
    have h4h := Lib.hid h4
    have kR := Lib.hid (ref_ReadTape K t key w hT hk htl)
    have hTh := Lib.hid hT
    obtain ⟨⟨out, z0⟩, hE0⟩ : ∃ r, lonL K key t rec = r := ⟨_, rfl⟩
    rw [hE0]
    have hE := Lib.hid hE0
    clear hT h4 hE0
    dsimp only
    go_enter Tryd.func10, Tryd.ntmps10
    go_upto_region 3 with (fail)
    go_wp2_with fail
    refine kR.out.mono ?_
    rintro e w1 ⟨v, recs, p, z, last, rfl, hL, hOw, hO⟩
    have hcnt := Lib.hid (show recs.length * 34 ≤ 140737488351232 by have := hO.cnt; have := hO.le; omega)
    have hfs := foldT_snoc K key recs rec
    rw [hO.fold] at hfs
    dsimp only at hfs
    obtain ⟨b, hb⟩ : ∃ b, tagB 1 (markL K key (last ++ rec) ++ rec) = b := ⟨_, rfl⟩
    have hlo := lonL_of h4h.out hL hb
    rw [hb] at hfs
    rw [hE.out] at hlo
    have hfh := Lib.hid (show (foldT K key (recs ++ [rec])).1 = t.take p ++ b by rw [hfs])
    have heach := Lib.hid (show ∀ r ∈ recs ++ [rec], r.length ≤ 4064 from fun r hr => by
      rcases List.mem_append.1 hr with hr | hr
      · exact hO.each r hr
      · have : r = rec := by simpa using hr
        rw [this]; have := h4h.out; omega)
    have hloh := Lib.hid hlo
    obtain ⟨vA, vc, hve, -, -⟩ := hOw.form
    subst hve
    have hOw2 := Lib.hid (show Own w w.heap.size 9 (.slice vA recs.length vc) (recs.map strV) w1 from by simpa using hOw)
    clear hL hOw hO hfs hb hlo hE kR d1 d2 h4h
    dsimp only
    go_upto_region 4 with (fail)
    go_wp2_with (at_builtin; refine wpList_own1 rfl (.tmp 23) (.tmp 25) 27 rfl SStr rfl hOw2.out (strV rec) rfl rfl (by rw [List.length_map]; have := hcnt.out; unfold maxLen; omega) (by rw [List.length_map]; have := hcnt.out; omega) ?_; intro v1 w4 hO4 hg4 hat4; have hO4h := Lib.hid (show Own w w.heap.size 9 v1 ((recs ++ [rec]).map strV) w4 from by rw [List.map_append]; exact hO4); clear hO4 hg4 hat4; obtain ⟨A5, c5, e5, hc5, hm5⟩ := hO4h.out.form; subst e5)
    have hTw := hTh.out.below hO4h.out.bel (Nat.le_refl _)
    refine (ref_TapeText K key A5 (recs ++ [rec]) (recs.length + 1) c5 w4 hTw hk hO4h.out.rd (by simp) (by have := hcnt.out; omega) heach.out).mono ?_
    rintro e w5 ⟨rfl, hb5⟩
    have hL := Lib.hid (below_step hb5 hO4h.out.bel (Nat.le_refl _))
    rw [hfh.out]
    have hlo := hloh.out
    obtain ⟨s, hs⟩ : ∃ s, t.take p ++ b = s := ⟨_, rfl⟩
    rw [hs] at hlo ⊢
    clear hTw hb5 hO4h hfh heach hloh hs hOw2
    dsimp only
    by_cases h6 : 65536 < s.length
    · have e1 : decide ((s.length : Int) > 65536) = true := by simp; omega
      have e2 : (65536 : Int) < (s.length : Int) := by omega
      rw [if_pos h6] at hlo
      injection hlo with o1 o2
      have ho := Lib.hid (And.intro o1 o2)
      clear h6 o1 o2
      go_wp2_with fail
      go_ret2
      exact ⟨by rw [ho.out.1, ho.out.2] <;> rfl, hL.out⟩
    · have e1 : decide ((s.length : Int) > 65536) = false := by simp; omega
      have e2 : ¬ (65536 : Int) < (s.length : Int) := by omega
      rw [if_neg h6] at hlo
      injection hlo with o1 o2
      have ho := Lib.hid (And.intro o1 o2)
      clear h6 o1 o2
      go_wp2_with fail
      go_ret2
      exact ⟨by rw [ho.out.1, ho.out.2] <;> rfl, hL.out⟩
theorem sameTexts (recs : List Rc) (A : Option Addr) (n c : Nat) (B : Option Addr) (d : Nat) (w : World) (hA : Rd w w.heap.size A (recs.map Rc.cell)) (hb : ∀ x ∈ recs, Bs w x.A x.body x.cap) (hB : Rd w w.heap.size B (recs.map fun x => strV x.body)) (hn : recs.length = n) (hn2 : n ≤ 140737488351232) :
    Calls Tryd.prog 11 #[.slice A n c, .slice B n d] w fun e w' => e = .returned (.bool true) ∧ Below w.heap.size w w' := by
  have hAh := Lib.hid hA
  have hBh := Lib.hid hB
  have hbh := Lib.hid hb
  have hnh := Lib.hid hn
  have hL0 := Lib.hid (Below.refl w.heap.size w)
  have hq : ((n : Int) != (n : Int)) = false := by simp
  clear hA hB hb hn
  go_enter Tryd.func11, Tryd.ntmps11
  go_upto_region 4 with (fail)
  go_loopw [13] (fun vi wr => ∃ i : Nat, vi = .int .i64 i ∧ i ≤ n ∧ Hid (Below w.heap.size w wr)) (fun vi _ => n - (intOf vi).toNat)
  case atStart => exact ⟨0, rfl, Nat.zero_le _, hL0⟩
  case round =>
    clear hL0
    obtain ⟨i, rfl, hi, hL⟩ := hrel
    by_cases hin : i = n
    · subst hin
      have d1 : decide ((i : Int) < (i : Int)) = false := by simp
      go_wp2_with fail
      go_ret
      exact ⟨rfl, hL.out⟩
    · have d1 : decide ((i : Int) < (n : Int)) = true := by simp; omega
      have hii : (i : Int) < (n : Int) := by omega
      have hi0 : (0 : Int) ≤ (i : Int) := by omega
      have hil : i < n := by omega
      have hir : i < recs.length := by rw [hnh.out]; exact hil
      obtain ⟨a1, hA2, -, hc1⟩ := (hAh.out.below hL.out).at_ (k := i) (by simpa using hir)
      obtain ⟨a2, hB2, -, hc2⟩ := (hBh.out.below hL.out).at_ (k := i) (by simpa using hir)
      subst hA2
      subst hB2
      rw [List.getElem_map] at hc1 hc2
      have hbx := (hbh.out recs[i] (List.getElem_mem hir)).step hL.out
      obtain ⟨x, hx⟩ : ∃ x, recs[i] = x := ⟨_, rfl⟩
      rw [hx] at hbx hc1 hc2
      unfold Rc.cell at hc1
      have hcv := (hbx.step (Below.refl _ _).drew).conv
      clear hbx hx
      go_upto_region 6 with (fail)
      go_region
      go_wp2_with fail
      go_roundw
      case rel => exact ⟨i + 1, by go_num, hil, by first | exact hL | exact Lib.hid hL.out.drew⟩
      case measure => simp [intOf]; omega
theorem flatRc (l : List Rc) : l.flatMap RcK.cells = l.map Rc.cell := by
  induction l with
  | nil => rfl
  | cons x l ih => rw [List.flatMap_cons, ih]; rfl
theorem tapeTells_true (K : Nat → W32) (A : Option Addr) (t : List UInt8) (c : Nat) (kA : Option Addr) (key : List UInt8) (kc : Nat) (rA : Option Addr) (rec : List UInt8) (rc : Nat) (w : World) (hT : Tabs K w) (ht : Bs w A t c) (hk : Bs w kA key kc) (hr : Bs w rA rec rc) (htl : t.length ≤ 140737488351232) (hkl : key.length ≤ 140737488351232) (hrl : rec.length ≤ 140737488351232) :
    Calls Tryd.prog 3 #[.slice A t.length c, .slice kA key.length kc, .slice rA rec.length rc] w fun e w' => e = .returned (.bool true) ∧ Below w.heap.size w w' := by
  have hTh := Lib.hid hT
  have hth := Lib.hid ht
  have hkh := Lib.hid hk
  have hrh := Lib.hid hr
  have k1 := Lib.hid (tape_Read K A t c kA key kc w hT ht htl hk)
  have k2 := Lib.hid (fun V (h : Below w.heap.size w V) => ref_ReadTape K t key V (hT.step h) (by omega) htl)
  have k3 := Lib.hid (fun V (h : Below w.heap.size w V) => tape_Append K A t c kA key kc rA rec rc V (hT.step h) (ht.step h) htl (hk.step h) (hr.step h))
  have k4 := Lib.hid (fun V (h : Below w.heap.size w V) => ref_Longer K t key rec V (hT.step h) (by omega) htl hrl)
  clear hT ht hk hr
  go_enter Tryd.func3, Tryd.ntmps3
  go_upto_region 1 with (fail)
  go_wp2_with fail
  refine k1.out.mono ?_
  rintro e w1 ⟨v, recs, p, z, last, rfl, hL1, hO1, hT1, hb1⟩
  have hB1 := Lib.hid hb1
  have hOh := Lib.hid hO1
  have hTp := Lib.hid hT1
  have hLh := Lib.hid hL1
  obtain ⟨A1, c1, e1, -, -⟩ := hO1.form
  subst e1
  have hc1 := (hth.out.step hb1).conv
  have hc2 := (hkh.out.step hb1).conv
  clear hL1 hO1 hT1 hb1 k1
  dsimp only
  go_upto_region 2 with (fail)
  go_wp2_with fail
  refine (k2.out w1 hB1.out).mono ?_
  rintro e w2 ⟨v2, recs2, p2, z2, last2, rfl, hL2, hO2, -⟩
  rw [hLh.out] at hL2
  injection hL2 with q1 q2
  injection q2 with q2 q3
  injection q3 with q3 q4
  subst q1 q2 q3 q4
  obtain ⟨A2, c2, e2, -, -⟩ := hO2.form
  subst e2
  have h9 : Own w1 w1.heap.size 9 (.slice A2 recs.length c2) (recs.map (strV ∘ Rc.body)) w2 := by simpa using hO2
  have hS2 := Lib.hid (show Own w1 w1.heap.size 9 (.slice A2 recs.length c2) (recs.map fun x => strV x.body) w2 from h9)
  have hB2 := Lib.hid (below_step hO2.bel hB1.out (Nat.le_refl _))
  have hOh2 := Lib.hid (hOh.out.step hO2.bel)
  clear hc1 hc2 hO2 k2 hLh hOh h9
  dsimp only
  rw [List.length_map, List.length_map]
  go_upto_region 3 with (fail)
  go_wp2_with fail
  refine (k3.out w2 hB2.out).mono ?_
  rintro e w3 ⟨A3, c3, rfl, hX3, hb3⟩
  have hB3 := Lib.hid (below_step hb3 hB2.out (Nat.le_refl _))
  have hS3 := Lib.hid (hS2.out.below hb3 (Nat.le_refl _))
  have hOh3 := Lib.hid (hOh2.out.step hb3)
  obtain ⟨⟨out, u⟩, hE0⟩ : ∃ r, lonL K key t rec = r := ⟨_, rfl⟩
  rw [hE0] at hX3 ⊢
  rw [hE0] at k4
  dsimp only at hX3 ⊢
  have hX3h := Lib.hid hX3
  have hc1 := (hth.out.step hB3.out).conv
  have hc2 := (hkh.out.step hB3.out).conv
  have hc3 := (hrh.out.step hB3.out).conv
  clear hE0 hX3 hb3 hS2 hOh2 k3
  go_upto_region 4 with (fail)
  go_wp2_with fail
  refine (k4.out w3 hB3.out).mono ?_
  rintro e w4 ⟨rfl, hb4⟩
  have hL := Lib.hid (below_step hb4 hB3.out (Nat.le_refl _))
  have hS4 := Lib.hid (hS3.out.below hb4 (Nat.le_refl _))
  have hOh4 := Lib.hid (hOh3.out.step hb4)
  have hX4 := Lib.hid (hX3h.out.step hb4)
  have hcnt := Lib.hid (show recs.length ≤ 140737488351232 by have := hTp.out.cnt; have := hTp.out.le; rw [List.length_map] at *; omega)
  clear hc1 hc2 hc3 hb4 hS3 hOh3 hX3h k4
  dsimp only
  go_upto_region 5 with (fail)
  go_wp2_with fail
  have hRd4 := hOh4.out.rd
  refine (sameTexts recs A1 recs.length c1 A2 c2 w4 (by rw [← flatRc]; exact hRd4) (fun x hx => by
    obtain ⟨r1, r2, r3, -⟩ := hOh4.out.body x hx
    exact ⟨r1, r2, by unfold maxLen at r3; exact r3⟩) hS4.out.rd rfl hcnt.out).mono ?_
  rintro e w5 ⟨rfl, hb5⟩
  replace hL := Lib.hid (below_step hb5 hL.out (Nat.le_refl _))
  have hcv := (hX4.out.step hb5).conv
  clear hb5 hRd4
  go_wp2_with fail
  exact ret_tmp (p := 6) (v := .bool true) rfl (by simp) rfl ⟨rfl, hL.out⟩
end Go.Proofs.YtdlmamnnamlleaaDoor
namespace Go.Proofs.YtdlmamnnamlleaaDoor
open Go Go.RowKit Go.ChangeShapes Go.WideShapes Go.ChangeAt Go.Deep

section
variable {P : Program} {w : World} {r : Reach} {b0 : Nat} {t : TypeId} {v : Value}

theorem oneCell_of_okWide {u : TypeId} {x : Value} (h : Cell.okWide P w r b0 u x) : x.oneCell' = true := by
  cases x <;> first | rfl | (exfalso; unfold Cell.okWide Cell.ok at h; revert h; split <;> (try split) <;> simp_all)

/-- A struct or an array by value: its cells, each of its own type. -/
theorem open_cells {n : Nat} {ts : List TypeId} (hu : (match P.underlying t with | some (.struct _) | some (.array _ _) => true | _ => false) = true) (hts : P.cellTypes P.depth t = some ts) (hn : ts.length = n)
    (hC : P.cellsOf t = n) (h : Value.okWide P w r b0 t v) : ∃ c : Array Value, v = .agg c ∧ Cells c n ∧ ∀ (i : Nat) u, ts[i]? = some u → ∃ x, c[i]? = some x ∧ Cell.okWide P w r b0 u x := by
  have h' : ∃ cs, v = .agg cs ∧ cs.size = P.cellsOf t ∧ Row.okWide P w r b0 t cs := by
    unfold Value.okWide at h
    cases hd : P.underlying t with
    | none => simp [hd] at hu
    | some d => cases d <;> first | (simp [hd] at hu; done) | (simpa [hd] using h)
  obtain ⟨c, rfl, hs, ts', hts', -, hc⟩ := h'
  obtain rfl : ts = ts' := Option.some.inj (hts.symm.trans hts')
  rw [hC] at hs
  refine ⟨c, rfl, ⟨hs, ?_⟩, fun i u hi => ?_⟩
  · rw [Array.all_eq_true_iff_forall_mem]
    intro x hx
    obtain ⟨i, hi⟩ := Array.getElem?_of_mem hx
    obtain ⟨u, -, hk⟩ := hc i x hi
    exact oneCell_of_okWide hk
  · have hil : i < ts.length := (List.getElem?_eq_some_iff.1 hi).1
    have hi2 : i < c.size := by omega
    obtain ⟨u', h1, h2⟩ := hc i c[i] (Array.getElem?_eq_getElem hi2)
    rw [Nat.mod_eq_of_lt hil] at h1
    obtain rfl : u = u' := Option.some.inj (hi.symm.trans h1)
    exact ⟨_, Array.getElem?_eq_getElem hi2, h2⟩

theorem cell_int {u : TypeId} {k : IntKind} {x : Value} (hu : P.underlying u = some (.int k)) (h : Cell.okWide P w r b0 u x) : ∃ n, x = .int k n ∧ k.has n := by
  cases x <;> simp [Cell.okWide, Cell.ok, hu] at h
  obtain ⟨rfl, h⟩ := h
  exact ⟨_, rfl, h⟩
theorem cell_slice {u e : TypeId} {x : Value} (hu : P.underlying u = some (.slice e)) (h : Cell.okWide P w r b0 u x) : ∃ a n c, x = .slice a n c ∧ n ≤ c ∧ c ≤ 9223372036854775807 := by
  cases x with
  | slice a n c =>
    cases a with
    | none =>
      cases n <;> cases c <;> simp [Cell.okWide, Cell.ok, hu] at h
      exact ⟨_, _, _, rfl, by omega, by omega⟩
    | some a =>
      simp [Cell.okWide, Cell.ok, hu] at h
      exact ⟨_, _, _, rfl, h.1, by have h2 : (c : Int) ≤ 9223372036854775807 := h.2.1; omega⟩
  | _ => simp [Cell.okWide, Cell.ok, hu] at h
theorem has_u8 {n : Int} (h : IntKind.u8.has n) : 0 ≤ n ∧ n < 256 := by simp [IntKind.has, IntKind.min, IntKind.max, IntKind.bits, IntKind.signed] at h; omega
theorem has_u32 {n : Int} (h : IntKind.u32.has n) : 0 ≤ n ∧ n < 4294967296 := by simp [IntKind.has, IntKind.min, IntKind.max, IntKind.bits, IntKind.signed] at h; omega
theorem has_u64 {n : Int} (h : IntKind.u64.has n) : 0 ≤ n ∧ n < 18446744073709551616 := by simp [IntKind.has, IntKind.min, IntKind.max, IntKind.bits, IntKind.signed] at h; omega
theorem has_i64 {n : Int} (h : IntKind.i64.has n) : -9223372036854775808 ≤ n ∧ n < 9223372036854775808 := by simp [IntKind.has, IntKind.min, IntKind.max, IntKind.bits, IntKind.signed] at h; omega
end

theorem cell_lt {w : World} {a : Addr} {v : Value} (h : w.cell? a = some v) : a.block < w.heap.size := by
  rcases Nat.lt_or_ge a.block w.heap.size with hlt | hge
  · exact hlt
  · simp only [World.cell?, Array.getElem?_eq_none hge] at h; cases h

/-- One choice for each index, as a list. -/
theorem list_of {α : Type} (n : Nat) (p : Nat → α → Prop) (h : ∀ i, i < n → ∃ x, p i x) : ∃ l : List α, l.length = n ∧ ∀ i (hi : i < l.length), p i l[i] := by
  induction n with
  | zero => exact ⟨[], rfl, fun i hi => absurd hi (by simp)⟩
  | succ n ih =>
    obtain ⟨l, hl, hp⟩ := ih fun i hi => h i (by omega)
    obtain ⟨x, hx⟩ := h n (by omega)
    refine ⟨l ++ [x], by simp [hl], fun i hi => ?_⟩
    by_cases hlt : i < l.length
    · rw [List.getElem_append_left hlt]; exact hp i hlt
    · have : i = l.length := by simp at hi; omega
      subst this
      rw [List.getElem_append_right (Nat.le_refl _)]
      simpa [hl] using hx

section
variable {H : Type} {enc : TypeId × Value → H} {P : Program} {w : World} {base : Nat} {spare : Nat → Bool} {held : Bool}

theorem wf_u8 {z : Int} (h : (Lit.int .u8 z).wf = true) : 0 ≤ z ∧ z < 256 := by
  simp only [Lit.wf, Bool.and_eq_true, decide_eq_true_eq] at h
  exact has_u8 h

/-- A slice of bytes that came in, by its reading. -/
theorem open_bytes {t e : TypeId} {fuel : Nat} {v : Value} {x : DataW H × List MemPlace} (ht : P.underlying t = some (.slice e)) (he : P.underlying e = some (.int .u8)) (hc : P.cellsOf e = 1)
    (h : DataW.trod enc P w base spare held fuel t [v] = some x) : ∃ (A : Option Addr) (l : List UInt8) (c : Nat), v = .slice A l.length c ∧ Rd w w.heap.size A (bytesV l) ∧ l.length ≤ c ∧ c ≤ maxLen := by
  rcases open_ints ht he hc h with ⟨hcs, -⟩ | ⟨a, len, cap, zs, hcs, -, hl, hm, hz, -, hcell, hwz⟩
  · injection hcs with hv
    exact ⟨none, [], 0, hv, Rd.nil, by simp, by simp [maxLen]⟩
  · injection hcs with hv
    have hlz : len ≤ zs.length := by rw [hz]; split <;> omega
    have hmap : ((zs.take len).map fun z => UInt8.ofNat z.toNat).length = len := by simp; omega
    refine ⟨some a, (zs.take len).map fun z => UInt8.ofNat z.toNat, cap, by rw [hmap]; exact hv, fun j u hu => ?_, by rw [hmap]; exact hl, hm⟩
    have hj : j < len := by
      have := (List.getElem?_eq_some_iff.1 hu).1
      simp [bytesV] at this; omega
    have hjz : j < zs.length := by omega
    have hcj := hcell j hjz
    have hlt := cell_lt hcj
    rw [addr_block] at hlt
    refine ⟨a, rfl, hlt, ?_⟩
    rw [hcj, ← hu]
    have hw := wf_u8 (hwz zs[j] (List.getElem_mem hjz))
    simp [bytesV, hj, List.getElem?_eq_getElem hjz, UInt8.toNat_ofNat']
    omega

/-- A slice of structs of one-cell fields that came in: each field's cell, and its own reading. -/
theorem open_rows {t e : TypeId} {fs : Array Field} {fuel : Nat} {v : Value} {x : DataW H × List MemPlace} (ht : P.underlying t = some (.slice e)) (he : P.underlying e = some (.struct fs))
    (hone : oneCellFields P fs = true) (hC : P.cellsOf e = fs.size) (h : DataW.trod enc P w base spare held fuel t [v] = some x) :
    ∃ (A : Option Addr) (n c : Nat), v = .slice A n c ∧ n ≤ c ∧ c ≤ maxLen ∧ ∀ i, i < n → ∃ a, A = some a ∧
      ∀ (j : Nat) (f : Field), fs[j]? = some f → ∃ (u : Value) (y : DataW H × List MemPlace) (m : Nat), w.cell? (a.add (i * fs.size + j)) = some u ∧ DataW.trod enc P w base spare held m f.type [u] = some y := by
  rcases open_slice ht h with ⟨hcs, -⟩ | ⟨a, len, cap, m, n, D, Pl, hcs, -, hl, hm, hmm, -, hi⟩
  · injection hcs with hv
    exact ⟨none, 0, 0, hv, Nat.le_refl _, by simp [maxLen], fun i hi => absurd hi (by omega)⟩
  · injection hcs with hv
    refine ⟨some a, len, cap, hv, hl, hm, fun i hil => ⟨a, rfl, fun j f hj => ?_⟩⟩
    have him : i < m := by rw [hmm]; split <;> omega
    obtain ⟨cs', hc, ht'⟩ := hi i him
    rw [hC] at hc
    obtain ⟨ys, n', -, -, -, hyl, hf⟩ := DataW.trod_struct he ht'
    obtain ⟨_, hcl, hat⟩ := World.cells?_some hc
    obtain ⟨ho, hk⟩ := hone_of hone j f hj
    have hjl : j < fs.size := (Array.getElem?_eq_some_iff.1 hj).1
    have hcell := hat j hjl
    have hv : cs'[j]? = some (cs'[j]'(by omega)) := List.getElem?_eq_getElem (by omega)
    have h1 := hf j f hj
    rw [ho, hk] at h1
    have hone' : (cs'.drop j).take 1 = [cs'[j]'(by omega)] := by
      rw [List.drop_eq_getElem_cons (by omega)]
      rfl
    rw [hone'] at h1
    have hys : ys[j]? = some (ys[j]'(by omega)) := List.getElem?_eq_getElem (by omega)
    refine ⟨_, _, n', ?_, h1.trans hys⟩
    rw [← addr_add, hcell, hv]
end
end Go.Proofs.YtdlmamnnamlleaaDoor
namespace Go.Proofs.YtdlmamnnamlleaaDoor
open Go Go.RowKit Go.ChangeShapes Go.WideShapes Go.ChangeAt Go.Deep

section
variable {P : Program} {w : World} {r : Reach} {b0 : Nat} {t : TypeId} {v : Value}

theorem val_int {k : IntKind} (hu : P.underlying t = some (.int k)) (h : Value.okWide P w r b0 t v) : ∃ n, v = .int k n ∧ k.has n := by
  have h' : Cell.okWide P w r b0 t v := by
    unfold Value.okWide at h
    simpa [hu] using h
  exact cell_int hu h'
theorem val_u8 (hu : P.underlying t = some (.int .u8)) (h : Value.okWide P w r b0 t v) : ∃ n : Nat, v = .int .u8 n ∧ n < 256 := by
  obtain ⟨n, rfl, hn⟩ := val_int hu h
  have := has_u8 hn
  exact ⟨n.toNat, by rw [Int.toNat_of_nonneg this.1], by omega⟩
theorem val_u64 (hu : P.underlying t = some (.int .u64)) (h : Value.okWide P w r b0 t v) : ∃ n : Nat, v = .int .u64 n ∧ n < 18446744073709551616 := by
  obtain ⟨n, rfl, hn⟩ := val_int hu h
  have := has_u64 hn
  exact ⟨n.toNat, by rw [Int.toNat_of_nonneg this.1], by omega⟩
theorem val_i64 (hu : P.underlying t = some (.int .i64)) (h : Value.okWide P w r b0 t v) : ∃ n : Int, v = .int .i64 n ∧ -9223372036854775808 ≤ n ∧ n < 9223372036854775808 := by
  obtain ⟨n, rfl, hn⟩ := val_int hu h
  exact ⟨n, rfl, has_i64 hn⟩

/-- An array of unsigned integers by value. -/
theorem val_arr {k : IntKind} {e : TypeId} {n m : Nat} (hk : ∀ z, k.has z → 0 ≤ z ∧ z < m) (hu : P.underlying t = some (.array n e)) (he : P.underlying e = some (.int k)) (hts : P.cellTypes P.depth t = some (List.replicate n e))
    (hC : P.cellsOf t = n) (h : Value.okWide P w r b0 t v) : ∃ f : Nat → Nat, v = .agg (arrK k n f) ∧ ∀ i < n, f i < m := by
  obtain ⟨c, rfl, hc, hx⟩ := open_cells (by simp [hu]) hts (by simp) hC h
  have h1 : ∀ i, ∃ z : Nat, i < n → c[i]? = some (.int k z) ∧ z < m := fun i => by
    by_cases hi : i < n
    · obtain ⟨x, hx1, hx2⟩ := hx i e (by simp [hi])
      obtain ⟨z, rfl, hz⟩ := cell_int he hx2
      have := hk z hz
      exact ⟨z.toNat, fun _ => ⟨by rw [Int.toNat_of_nonneg this.1]; exact hx1, by omega⟩⟩
    · exact ⟨0, fun h => absurd h hi⟩
  refine ⟨fun i => (h1 i).choose, ?_, fun i hi => ((h1 i).choose_spec hi).2⟩
  exact congrArg Value.agg (arrK_of hc.1 fun i hi => ((h1 i).choose_spec hi).1)
end
end Go.Proofs.YtdlmamnnamlleaaDoor
namespace Go.Proofs.YtdlmamnnamlleaaDoor
open Go Go.RowKit Go.ChangeShapes Go.WideShapes Go.ChangeAt Go.Deep

section
variable {H : Type} {enc : TypeId × Value → H} {P : Program} {w : World} {base : Nat} {held : Bool}

/-- What was read is within the reach. -/
def Wt (P : Program) (t : TypeId) (d : DataW H) : Prop := ∀ n ∈ DataW.weights P t d, n ≤ reachBytes

theorem wt_top {ts : List TypeId} {ds : List (DataW H)} (h : (DataW.weightsEach P ts ds).all (· ≤ reachBytes) = true) {j : Nat} {t : TypeId} {d : DataW H} (ht : ts[j]? = some t) (hd : ds[j]? = some d) : Wt P t d := fun n hn => by
  simpa using List.all_eq_true.1 h n (DataW.weights_mem_each ht hd n hn)
theorem wt_all {e : TypeId} : ∀ {l : List (DataW H)} {d : DataW H}, d ∈ l → ∀ n ∈ DataW.weights P e d, n ∈ DataW.weightsAll P e l
  | x :: r, d, h, n, hn => by
      rw [DataW.weightsAll]
      rcases List.mem_cons.1 h with rfl | h
      · exact List.mem_append_left _ hn
      · exact List.mem_append_right _ (wt_all h n hn)
theorem wt_slice {t e : TypeId} {elems spare : List (DataW H)} (h : Wt P t (.slice elems spare)) (hu : P.underlying t = some (.slice e)) : (elems.length + spare.length) * P.bytesOf e ≤ reachBytes ∧ ∀ d ∈ elems, Wt P e d := by
  refine ⟨h _ (by simp [DataW.weights, hu]), fun d hd n hn => h n ?_⟩
  rw [DataW.weights, hu]
  exact List.mem_cons_of_mem _ (List.mem_append_left _ (wt_all hd n hn))
theorem wt_struct {t : TypeId} {fs : Array Field} {parts : List (DataW H)} (h : Wt P t (.agg parts)) (hu : P.underlying t = some (.struct fs)) {j : Nat} {f : Field} {d : DataW H} (hf : fs[j]? = some f) (hd : parts[j]? = some d) : Wt P f.type d := fun n hn => by
  refine h n ?_
  rw [DataW.weights, hu]
  exact DataW.weights_mem_each (by simp [hf]) hd n hn

/-- A slice of bytes that came in, by its reading, and its bound. -/
theorem open_bytes_wt {t e : TypeId} {fuel : Nat} {v : Value} {x : DataW H × List MemPlace} (ht : P.underlying t = some (.slice e)) (he : P.underlying e = some (.int .u8)) (hc : P.cellsOf e = 1) (hb : P.bytesOf e = 1)
    (h : DataW.trod enc P w base (fun _ => true) held fuel t [v] = some x) (hw : Wt P t x.1) : ∃ (A : Option Addr) (l : List UInt8) (c : Nat), v = .slice A l.length c ∧ Rd w w.heap.size A (bytesV l) ∧ l.length ≤ c ∧ c ≤ 140737488351232 := by
  obtain ⟨A, l, c, rfl, h1, h2, h3⟩ := open_bytes ht he hc h
  refine ⟨A, l, c, rfl, h1, h2, ?_⟩
  rcases open_ints ht he hc h with ⟨hcs, -⟩ | ⟨a, len, cap, zs, hcs, -, hl, hm, hz, hx, -, -⟩
  · simp only [List.cons.injEq, Value.slice.injEq, and_true] at hcs
    omega
  · rw [hx] at hw
    have h4 := (wt_slice hw ht).1
    simp only [List.cons.injEq, Value.slice.injEq, and_true] at hcs
    simp only [if_true] at hz
    rw [hb] at h4
    simp [lits] at h4
    unfold reachBytes at h4
    omega

/-- A slice of structs of one-cell fields that came in: each field's cell, and its own reading, and its bound. -/
theorem open_rows_wt {t e : TypeId} {fs : Array Field} {fuel : Nat} {v : Value} {x : DataW H × List MemPlace} (ht : P.underlying t = some (.slice e)) (he : P.underlying e = some (.struct fs))
    (hone : oneCellFields P fs = true) (hC : P.cellsOf e = fs.size) (h : DataW.trod enc P w base (fun _ => true) held fuel t [v] = some x) (hw : Wt P t x.1) :
    ∃ (A : Option Addr) (n c : Nat), v = .slice A n c ∧ n ≤ c ∧ c ≤ maxLen ∧ c * P.bytesOf e ≤ reachBytes ∧ ∀ i, i < n → ∃ a, A = some a ∧
      ∀ (j : Nat) (f : Field), fs[j]? = some f → ∃ (u : Value) (y : DataW H × List MemPlace) (m : Nat), w.cell? (a.add (i * fs.size + j)) = some u ∧ DataW.trod enc P w base (fun _ => true) held m f.type [u] = some y ∧ Wt P f.type y.1 := by
  rcases open_slice ht h with ⟨hcs, -⟩ | ⟨a, len, cap, m, n, D, Pl, hcs, -, hl, hm, hmm, hx, hi⟩
  · injection hcs with hv
    exact ⟨none, 0, 0, hv, Nat.le_refl _, by simp [maxLen], by simp, fun i hi => absurd hi (by omega)⟩
  · injection hcs with hv
    rw [hx] at hw
    obtain ⟨hw1, hw2⟩ := wt_slice hw ht
    simp only [if_true] at hmm
    refine ⟨some a, len, cap, hv, hl, hm, ?_, fun i hil => ⟨a, rfl, fun j f hj => ?_⟩⟩
    · simp only [List.length_map, List.length_range] at hw1
      rw [show len + (m - len) = cap by omega] at hw1
      exact hw1
    have him : i < m := by omega
    obtain ⟨cs', hc, ht'⟩ := hi i him
    have hwi : Wt P e (D i) := hw2 _ (List.mem_map.2 ⟨i, List.mem_range.2 hil, rfl⟩)
    rw [hC] at hc
    obtain ⟨ys, n', -, hxy, -, hyl, hf⟩ := DataW.trod_struct he ht'
    have hDi : D i = .agg (ys.map (·.1)) := congrArg Prod.fst hxy
    rw [hDi] at hwi
    obtain ⟨_, hcl, hat⟩ := World.cells?_some hc
    obtain ⟨ho, hk⟩ := hone_of hone j f hj
    have hjl : j < fs.size := (Array.getElem?_eq_some_iff.1 hj).1
    have hcell := hat j hjl
    have hv : cs'[j]? = some (cs'[j]'(by omega)) := List.getElem?_eq_getElem (by omega)
    have h1 := hf j f hj
    rw [ho, hk] at h1
    have hone' : (cs'.drop j).take 1 = [cs'[j]'(by omega)] := by
      rw [List.drop_eq_getElem_cons (by omega)]
      rfl
    rw [hone'] at h1
    have hys : ys[j]? = some (ys[j]'(by omega)) := List.getElem?_eq_getElem (by omega)
    refine ⟨_, _, n', ?_, h1.trans hys, wt_struct hwi he hj (by rw [List.getElem?_map, hys]; rfl)⟩
    rw [← addr_add, hcell, hv]
end
end Go.Proofs.YtdlmamnnamlleaaDoor
namespace Go.Proofs.YtdlmamnnamlleaaDoor
open Go.ChangeShapes Go.WideShapes Go.ChangeAt Go.WideMaps Go.WideElems Go.RowKit
set_option maxRecDepth 100000

theorem gOne : Tryd.prog.globalNamed "sealring/hash.primeRoots" = some 1 := by kernel_rfl
theorem gTwo : Tryd.prog.globalNamed "sealring/sealringref.roundNumbers" = some 0 := by kernel_rfl
theorem tOne : (Tryd.prog.globals[1]?).map (·.type) = some 177 := by kernel_rfl
theorem tTwo : (Tryd.prog.globals[0]?).map (·.type) = some 177 := by kernel_rfl
def laid2 : List (String × DataW Unit) := [("sealring/hash.primeRoots", Rows.laid_sealring_hash_primeRoots), ("sealring/sealringref.roundNumbers", Rows.laid_sealring_sealringref_roundNumbers)]

/-- Number i of a laid array. -/
def litAt : DataW Unit → Nat → Int
  | .agg l, i => match l[i]? with | some (.lit (.int _ z)) => z | _ => 0
  | _, _ => 0
def K0 (i : Nat) : W32 := BitVec.ofNat 32 (litAt Rows.laid_sealring_hash_primeRoots i).toNat
theorem laid_same : (Rows.laid_sealring_sealringref_roundNumbers : DataW Unit) = Rows.laid_sealring_hash_primeRoots := by kernel_rfl
theorem laid_tab {W : World} {enc : TypeId × Value → Unit} {n : String} {g base fuel : Nat} {spare : Nat → Bool} {held : Bool} {cs : Array Value} {pl : List MemPlace} (hg : Tryd.prog.globalNamed n = some g) (hv : W.var? Tryd.prog n = some cs)
    (hd : DataW.trod enc Tryd.prog W base spare held fuel 177 cs.toList = some (Rows.laid_sealring_hash_primeRoots, pl)) : ∀ i < 64, W.cell? ⟨g, i, none⟩ = some (u32v (K0 i)) := by
  intro i hi
  obtain ⟨xs, m, rfl, hx, hlen, hn, hel⟩ := DataW.trod_array Tryd.underlying177 hd
  have c1 : Tryd.prog.cellsOf 95 = 1 := by kernel_rfl
  have h1 := hel i hi
  have hxi : xs[i]? = some (xs[i]'(by omega)) := List.getElem?_eq_getElem (by omega)
  rw [hxi, c1, Nat.mul_one] at h1
  obtain ⟨z, e1, e2, hw⟩ := DataW.trod_int Tryd.underlying95 h1
  have hc : cs[i]? = some (.int .u32 z) := by
    have h2 : (cs.toList.drop i).take 1 = [.int .u32 z] := e1
    have h3 : ((cs.toList.drop i).take 1)[0]? = some (.int .u32 z) := by rw [h2]; rfl
    rw [List.getElem?_take_of_lt (by omega), List.getElem?_drop] at h3
    simpa using h3
  have hz : litAt Rows.laid_sealring_hash_primeRoots i = z := by
    have h4 : (Rows.laid_sealring_hash_primeRoots : DataW Unit) = .agg (xs.map (·.1)) := congrArg Prod.fst hx
    rw [h4]
    simp only [litAt, List.getElem?_map, hxi, e2, Option.map_some]
  rw [World.var?_cell hg hv i, hc]
  unfold K0 u32v
  have hwf : 0 ≤ z ∧ z < 4294967296 := by
    simp only [Lit.wf, Bool.and_eq_true, decide_eq_true_eq] at hw
    have h5 : IntKind.u32.min ≤ z ∧ z ≤ IntKind.u32.max := by simpa [IntKind.has] using hw
    have h6 : IntKind.u32.min = 0 := rfl
    have h7 : IntKind.u32.max = 4294967295 := rfl
    omega
  rw [hz, w2n_of (by omega), Int.toNat_of_nonneg hwf.1]
theorem of_laid {W : World} (h : laidMetH Tryd.prog laid2 W) : Tabs K0 W := by
  rw [MakeChecks.laidMetH_plain _ _ _ (by kernel_rfl)] at h
  obtain ⟨ps, ⟨g0, t0, cs0, f0, p0, q0, hg0, ht0, hv0, hd0, ⟨g1, t1, cs1, f1, p1, q1, hg1, ht1, hv1, hd1, _, _⟩, _⟩, _, _⟩ := h
  obtain rfl := Option.some.inj (gOne.symm.trans hg0)
  obtain rfl := Option.some.inj (gTwo.symm.trans hg1)
  obtain rfl := Option.some.inj (tOne.symm.trans ht0)
  obtain rfl := Option.some.inj (tTwo.symm.trans ht1)
  have h1 := laid_tab gOne hv0 hd0
  have h2 := laid_tab gTwo hv1 (laid_same ▸ hd1)
  exact ⟨h1, cell_lt (h1 0 (by omega)), h2, cell_lt (h2 0 (by omega))⟩
theorem door_met (os : Os) (args : Array Value) : laidMetH Tryd.prog laid2 ((World.doorLaid Tryd.prog 400 os).forCall (fun _ _ => 0) ⟨#[], args, []⟩).memory :=
  laidMetH_of_parts3 (fuel := 8) (laidMet_of_run' 8 (by kernel_rfl) (by kernel_rfl)) (by kernel_rfl) (by kernel_rfl)
end Go.Proofs.YtdlmamnnamlleaaDoor
