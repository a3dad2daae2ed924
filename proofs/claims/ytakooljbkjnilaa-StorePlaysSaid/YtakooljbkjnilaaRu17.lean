/- Plain laws: what package rule says of attributes is what the document says. -/
import Derived.Test.YtakooljbkjnilaaRuD
namespace Go.Proofs.Ytakooljbkjnilaa
open Go.ChangeShapes Go.WideShapes Go.ChangeAt Go.RowKit

/-! A list with no fault -/
structure Good (s : List KV) : Prop where
  len : s.length ≤ 24
  kind : ∀ x ∈ s, 1 ≤ x.1 ∧ x.1 ≤ 18
  fits : ∀ x ∈ s, fitsB x = true
  ne : s.Pairwise fun a b => a.1 ≠ b.1
theorem faultAt_zero {pre : List KV} {x : KV} (h : faultAt pre x = 0) : (1 ≤ x.1 ∧ x.1 ≤ 18) ∧ fitsB x = true ∧ ∀ y ∈ pre, y.1 ≠ x.1 := by
  unfold faultAt at h
  split at h
  · simp at h
  · rename_i h1
    split at h
    · simp at h
    · rename_i h2
      split at h
      · simp at h
      · rename_i h3
        refine ⟨by omega, by simpa using h2, fun y hy e => h3 ?_⟩
        unfold seenK
        rw [List.any_eq_true]
        exact ⟨y, hy, by simpa using e⟩
theorem faultL_zero : ∀ (pre s : List KV), faultL pre s = 0 → (∀ x ∈ s, 1 ≤ x.1 ∧ x.1 ≤ 18) ∧ (∀ x ∈ s, fitsB x = true) ∧ (∀ x ∈ s, ∀ y ∈ pre, y.1 ≠ x.1) ∧ s.Pairwise fun a b => a.1 ≠ b.1 := by
  intro pre s
  induction s generalizing pre with
  | nil => intro _; simp
  | cons x r ih =>
    intro h
    simp only [faultL] at h
    by_cases h0 : faultAt pre x = 0
    · rw [if_pos h0] at h
      obtain ⟨a1, a2, a3, a4⟩ := ih _ h
      obtain ⟨b1, b2, b3⟩ := faultAt_zero h0
      refine ⟨fun y hy => ?_, fun y hy => ?_, fun y hy z hz => ?_, ?_⟩
      · rcases List.mem_cons.1 hy with rfl | hy
        · exact b1
        · exact a1 y hy
      · rcases List.mem_cons.1 hy with rfl | hy
        · exact b2
        · exact a2 y hy
      · rcases List.mem_cons.1 hy with rfl | hy
        · exact b3 z hz
        · exact a3 y hy z (List.mem_append_left _ hz)
      · rw [List.pairwise_cons]
        exact ⟨fun y hy => a3 y hy x (by simp), a4⟩
    · rw [if_neg h0] at h; exact absurd h h0
theorem good_of {s : List KV} (h : fault s = 0) : Good s := by
  unfold fault at h
  by_cases hl : 24 < s.length
  · rw [if_pos hl] at h; simp at h
  · rw [if_neg hl] at h
    obtain ⟨a1, a2, -, a4⟩ := faultL_zero [] s h
    exact ⟨by omega, a1, a2, a4⟩
theorem faultL_good : ∀ (pre s : List KV), (∀ x ∈ s, 1 ≤ x.1 ∧ x.1 ≤ 18) → (∀ x ∈ s, fitsB x = true) → (∀ x ∈ s, ∀ y ∈ pre, y.1 ≠ x.1) → (s.Pairwise fun a b => a.1 ≠ b.1) → faultL pre s = 0 := by
  intro pre s
  induction s generalizing pre with
  | nil => intros; rfl
  | cons x r ih =>
    intro h1 h2 h3 h4
    rw [List.pairwise_cons] at h4
    have h0 : faultAt pre x = 0 := faultAt_ok (by have := h1 x (by simp); omega) (h2 x (by simp)) (by
      unfold seenK
      rw [List.any_eq_false]
      intro y hy
      simpa using h3 x (by simp) y hy)
    simp only [faultL]
    rw [if_pos h0]
    refine ih _ (fun y hy => h1 y (by simp [hy])) (fun y hy => h2 y (by simp [hy])) (fun y hy z hz => ?_) h4.2
    rcases List.mem_append.1 hz with hz | hz
    · exact h3 y (by simp [hy]) z hz
    · have : z = x := by simpa using hz
      subst this
      exact h4.1 y hy
theorem Good.zero {s : List KV} (h : Good s) : fault s = 0 := by
  unfold fault
  rw [if_neg (by have := h.len; omega)]
  exact faultL_good [] s h.kind h.fits (by simp) h.ne
theorem lookK_mem {s : List KV} (h : s.Pairwise fun a b => a.1 ≠ b.1) {x : KV} (hx : x ∈ s) : lookK s x.1 = some x.2 := by
  induction s with
  | nil => simp at hx
  | cons y r ih =>
    rw [List.pairwise_cons] at h
    unfold lookK
    rw [List.find?_cons]
    rcases List.mem_cons.1 hx with rfl | hx
    · simp
    · have hne : (y.1 == x.1) = false := by rw [beq_eq_false_iff_ne]; exact h.1 x hx
      rw [hne]
      exact ih h.2 hx
theorem lookK_some {s : List KV} {k : Int} {b : List UInt8} (h : lookK s k = some b) : (k, b) ∈ s := by
  unfold lookK at h
  obtain ⟨x, hx, rfl⟩ := Option.map_eq_some_iff.1 h
  have h1 := List.find?_some hx
  have h2 := List.mem_of_find?_eq_some hx
  have h3 : x.1 = k := by simpa using h1
  rw [← h3]; exact h2

/-! Cards as lists -/
theorem attrs_eq (c : Crd) : c.attrs = ((List.range 19).filter c.has).map fun k : Nat => ((k : Int), c.v k) := by
  unfold Crd.attrs Crd.to_
  generalize List.range 19 = l
  induction l with
  | nil => rfl
  | cons k r ih =>
    rw [List.filterMap_cons, List.filter_cons]
    cases h : c.has k
    · have ha : c.at_ k = none := by simp [Crd.at_, h]
      rw [ha]; simpa using ih
    · have ha : c.at_ k = some ((k : Int), c.v k) := by simp [Crd.at_, h]
      rw [ha]; simpa using ih
theorem cls_eq (s : List KV) : (cardOf s).cls = clsL s := by
  have hv : (cardOf s).v 1 = (lookK s 1).getD [] := by simp [cardOf, inK]
  unfold Crd.cls clsL
  rw [hv]
  cases h : lookK s 1 with
  | none => simp
  | some b =>
    rcases b with _ | ⟨b0, _ | ⟨b1, r⟩⟩
    · simp
    · simp [headB]
    · simp
theorem one_eq (s : List KV) {k : Nat} (h : inK k = true) : (cardOf s).one k = lookOneK s k := by
  unfold Crd.one lookOneK
  have hv : (cardOf s).v k = (lookK s k).getD [] := by simp [cardOf, h]
  rw [hv]
  cases h : lookK s k with
  | none => rfl
  | some b => rfl
theorem tied_bool : ∀ b8 b9 b10 b11 b13 b14 b15 b16 b17 : Bool, ((!b10 || b8) && (!b11 || !b9) && !((b16 || b17) && (b13 || b14 || b15))) =
    (if ((b10 && !b8) || (b11 && b9)) = true then false else !(b16 || b17) || !(b13 || (b14 || b15))) := by decide
theorem tied_eq (s : List KV) : (cardOf s).tied = soundK s := by
  unfold Crd.tied soundK
  rw [one_eq s (by decide : inK 10 = true), one_eq s (by decide : inK 8 = true), one_eq s (by decide : inK 11 = true), one_eq s (by decide : inK 9 = true), one_eq s (by decide : inK 16 = true), one_eq s (by decide : inK 17 = true), one_eq s (by decide : inK 13 = true), one_eq s (by decide : inK 14 = true), one_eq s (by decide : inK 15 = true)]
  exact tied_bool _ _ _ _ _ _ _ _ _
theorem belongs_1 : ∀ k : Nat, k < 19 → inK k = true → belongs 1 k = (kindsN 1).contains k := by decide
theorem belongs_2 : ∀ k : Nat, k < 19 → inK k = true → belongs 2 k = (kindsN 2).contains k := by decide
theorem belongs_3 : ∀ k : Nat, k < 19 → inK k = true → belongs 3 k = (kindsN 3).contains k := by decide
theorem belongs_4 : ∀ k : Nat, k < 19 → inK k = true → belongs 4 k = (kindsN 4).contains k := by decide
theorem inK_lt {k : Nat} (h : inK k = true) : 1 ≤ k ∧ k ≤ 18 := by simpa [inK] using h
theorem belongs_eq (C : Nat) {k : Nat} (h : inK k = true) : belongs C k = (kindsN C).contains k := by
  have hk := inK_lt h
  by_cases c1 : C = 1
  · subst c1; exact belongs_1 k (by omega) h
  by_cases c2 : C = 2
  · subst c2; exact belongs_2 k (by omega) h
  by_cases c3 : C = 3
  · subst c3; exact belongs_3 k (by omega) h
  by_cases c4 : C = 4
  · subst c4; exact belongs_4 k (by omega) h
  have e1 : belongs C k = false := by unfold belongs; rw [if_neg (by omega), if_neg (by omega), if_neg (by omega), if_neg (by omega)]
  have e2 : kindsN C = [] := by unfold kindsN; rw [if_neg c1, if_neg c2, if_neg c3, if_neg c4]
  rw [e1, e2]; rfl
theorem kinds_filter (C : Nat) : (List.range 19).filter (dHas C) = kindsN C := by
  by_cases c1 : C = 1
  · subst c1; decide
  by_cases c2 : C = 2
  · subst c2; decide
  by_cases c3 : C = 3
  · subst c3; decide
  by_cases c4 : C = 4
  · subst c4; decide
  have e2 : kindsN C = [] := by unfold kindsN; rw [if_neg c1, if_neg c2, if_neg c3, if_neg c4]
  rw [e2, List.filter_eq_nil_iff]
  intro k _
  have e1 : belongs C k = false := by unfold belongs; rw [if_neg (by omega), if_neg (by omega), if_neg (by omega), if_neg (by omega)]
  simp [dHas, e1]
theorem kinds_in (C : Nat) : ∀ k ∈ kindsN C, inK k = true := by
  intro k hk
  rw [← kinds_filter] at hk
  have := (List.mem_filter.1 hk).2
  simp only [dHas, Bool.and_eq_true] at this
  exact this.1
theorem kinds_class {C : Nat} (h : kindsN C ≠ []) : C = 1 ∨ C = 2 ∨ C = 3 ∨ C = 4 := by
  unfold kindsN at h
  by_cases c1 : C = 1
  · exact .inl c1
  by_cases c2 : C = 2
  · exact .inr (.inl c2)
  by_cases c3 : C = 3
  · exact .inr (.inr (.inl c3))
  by_cases c4 : C = 4
  · exact .inr (.inr (.inr c4))
  rw [if_neg c1, if_neg c2, if_neg c3, if_neg c4] at h
  exact absurd rfl h
theorem sized_eq {C : Nat} (h : C = 1 ∨ C = 2 ∨ C = 3 ∨ C = 4) (n : Int) : sizedP C n = sizedR C n := by
  rcases h with rfl | rfl | rfl | rfl
  · rfl
  · unfold sizedP sizedR
    cases h1 : (n == 16) <;> cases h2 : (n == 24) <;> cases h3 : (n == 32) <;> rfl
  · unfold sizedP sizedR; simp
  · unfold sizedP sizedR; simp
theorem fitsK_eq (c : Crd) : c.fitsK = true ↔ ∀ k, inK k = true → c.has k = belongs c.cls (k : Int) := by
  constructor
  · intro h k hk
    have hk' := inK_lt hk
    unfold Crd.fitsK at h
    rw [List.all_eq_true] at h
    have := h (k - 1) (by simp; omega)
    rw [show k - 1 + 1 = k by omega] at this
    simpa using this
  · intro h
    exact fitsK_yes fun n h1 h2 => h n (by simp [inK]; omega)
theorem has_eq (s : List KV) {k : Nat} (h : inK k = true) : (cardOf s).has k = (lookK s k).isSome := by simp [cardOf, h]
theorem v_eq (s : List KV) {k : Nat} (h : inK k = true) : (cardOf s).v k = (lookK s k).getD [] := by simp [cardOf, h]
theorem has_in {s : List KV} {k : Nat} (h : (cardOf s).has k = true) : inK k = true := by
  simp only [cardOf, Bool.and_eq_true] at h
  exact h.1
theorem some_iff (s : List KV) (k : Int) : (lookK s k).isSome = true ↔ k ∈ s.map (·.1) := by
  unfold lookK
  rw [Option.isSome_map, List.find?_isSome]
  simp only [List.mem_map, beq_iff_eq]
/-- A list with distinct kinds is told by its kinds. -/
theorem by_kinds {s : List KV} (h : s.Pairwise fun a b => a.1 ≠ b.1) : s = (s.map (·.1)).map fun z => (z, (lookK s z).getD []) := by
  rw [List.map_map]
  conv => lhs; rw [← List.map_id s]
  refine List.map_congr_left fun x hx => ?_
  simp only [id, Function.comp, lookK_mem h hx, Option.getD_some]
theorem kinds_to {s : List KV} (hg : Good s) (hne : s ≠ []) (h : s.map (·.1) = (kindsN (clsL s)).map fun k : Nat => (k : Int)) :
    s = (cardOf s).attrs ∧ (cardOf s).fitsK = true ∧ (cardOf s).has 1 = true := by
  have hK : kindsN (clsL s) ≠ [] := by
    intro e
    rw [e] at h
    exact hne (List.map_eq_nil_iff.1 h)
  have hhas : ∀ k, inK k = true → (cardOf s).has k = (kindsN (clsL s)).contains k := fun k hk => by
    rw [has_eq s hk, Bool.eq_iff_iff, some_iff, h, List.contains_iff_mem, List.mem_map]
    constructor
    · rintro ⟨m, hm, e⟩
      obtain rfl : m = k := by omega
      exact hm
    · intro hm; exact ⟨k, hm, rfl⟩
  have hf : (cardOf s).fitsK = true := by
    rw [fitsK_eq]
    intro k hk
    rw [hhas k hk, cls_eq, belongs_eq _ hk]
  refine ⟨?_, hf, ?_⟩
  · have e1 : (List.range 19).filter (cardOf s).has = kindsN (clsL s) := by
      rw [← kinds_filter (clsL s)]
      refine List.filter_congr fun k hk => ?_
      unfold dHas
      cases hi : inK k
      · simp [cardOf, hi]
      · rw [hhas k hi, belongs_eq _ hi]; rfl
    rw [attrs_eq, e1]
    conv => lhs; rw [by_kinds hg.ne, h]
    rw [List.map_map]
    refine List.map_congr_left fun k hk => ?_
    simp only [Function.comp, v_eq s (kinds_in _ k hk)]
  · rw [hhas 1 (by decide)]
    rcases kinds_class hK with e | e | e | e <;> rw [e] <;> decide
theorem kinds_from {s : List KV} (h : s = (cardOf s).attrs) (hf : (cardOf s).fitsK = true) : s.map (·.1) = (kindsN (clsL s)).map fun k : Nat => (k : Int) := by
  have e1 : (List.range 19).filter (cardOf s).has = kindsN (clsL s) := by
    rw [← kinds_filter (clsL s)]
    refine List.filter_congr fun k hk => ?_
    unfold dHas
    cases hi : inK k
    · simp [cardOf, hi]
    · rw [(fitsK_eq _).1 hf k hi, cls_eq]; rfl
  conv => lhs; rw [h, attrs_eq, e1]
  rw [List.map_map]; rfl
theorem validK_eq (s : List KV) : validK s = validR s := by
  unfold validK validR
  cases hf : (fault s == 0) with
  | false => rfl
  | true =>
    have hg : Good s := good_of (by simpa using hf)
    simp only [Bool.true_and]
    rw [Bool.eq_iff_iff]
    simp only [Bool.and_eq_true, decide_eq_true_eq]
    unfold Crd.object
    simp only [Bool.and_eq_true]
    constructor
    · rintro ⟨-, h2, h3, h4, h5⟩
      have hne : s ≠ [] := fun e => h2 (by rw [e]; rfl)
      obtain ⟨a1, a2, a3⟩ := kinds_to hg hne h3
      have hK : kindsN (clsL s) ≠ [] := fun e => by
        rw [e] at h3
        exact hne (List.map_eq_nil_iff.1 h3)
      refine ⟨a1, a2, a3, ?_, ?_⟩
      · rw [cls_eq, v_eq s (by decide : inK 4 = true), ← sized_eq (kinds_class hK)]; exact h4
      · rw [tied_eq]; exact h5
    · rintro ⟨h1, h2, h3, h4, h5⟩
      have e1 := kinds_from h1 h2
      have hcls : belongs (clsL s) 1 = true := by
        have := (fitsK_eq _).1 h2 1 (by decide)
        rw [cls_eq] at this
        rw [← h3]; exact this.symm
      have hK : kindsN (clsL s) ≠ [] := fun e => by
        have := belongs_eq (clsL s) (k := 1) (by decide)
        rw [e] at this
        rw [show belongs (clsL s) ((1 : Nat) : Int) = belongs (clsL s) 1 from rfl, hcls] at this
        cases this
      refine ⟨?_, ?_, e1, ?_, ?_⟩
      · have := congrArg List.length e1
        simpa using this
      · intro e
        have := congrArg List.length e1
        rw [List.length_map, List.length_map, e] at this
        exact hK (List.length_eq_zero_iff.1 this.symm)
      · rw [sized_eq (kinds_class hK)]
        rw [cls_eq, v_eq s (by decide : inK 4 = true)] at h4
        exact h4
      · rw [← tied_eq]; exact h5
end Go.Proofs.Ytakooljbkjnilaa
