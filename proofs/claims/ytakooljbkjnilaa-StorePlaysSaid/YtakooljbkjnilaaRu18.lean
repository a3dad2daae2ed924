/- Plain law: what package rule makes is what the document says. -/
import Derived.Test.YtakooljbkjnilaaRu17
namespace Go.Proofs.Ytakooljbkjnilaa
open Go.ChangeShapes Go.WideShapes Go.ChangeAt Go.RowKit

theorem crd0_attrs : crd0.attrs = [] := by decide
theorem hasInt_eq (ks : List Nat) (n : Nat) : hasInt ks n = ks.contains n := by
  unfold hasInt
  rw [Bool.eq_iff_iff, List.any_eq_true, List.contains_iff_mem]
  constructor
  · rintro ⟨x, hx, e⟩
    have : x = n := by simp at e; omega
    subst this; exact hx
  · intro h; exact ⟨n, h, by simp⟩
theorem scan_eq {C : Nat} {s : List Int} (h : ∀ k ∈ s, 1 ≤ k ∧ k ≤ 18) : scanK (kindsN C) s = scanR C s := by
  induction s with
  | nil => rfl
  | cons k r ih =>
    have hk := h k (by simp)
    obtain ⟨n, rfl⟩ : ∃ n : Nat, k = n := ⟨k.toNat, by omega⟩
    have e : scanAt (kindsN C) (n : Int) = scanRAt C (n : Int) := by
      unfold scanAt scanRAt
      rw [hasInt_eq, belongs_eq C (by simp [inK]; omega)]
      have : ((n : Int) = 10 ∨ (n : Int) = 11 ∨ (n : Int) = 12) ↔ (10 ≤ (n : Int) ∧ (n : Int) ≤ 12) := by omega
      simp only [this]
    simp only [scanK, scanR, e, ih fun k hk => h k (by simp [hk])]
theorem scanK_zero {ks : List Nat} {s : List Int} (h : scanK ks s = 0) : ∀ k ∈ s, hasInt ks k = true ∧ ¬ (k = 10 ∨ k = 11 ∨ k = 12) := by
  induction s with
  | nil => simp
  | cons x r ih =>
    simp only [scanK] at h
    by_cases h0 : scanAt ks x = 0
    · rw [if_pos h0] at h
      intro k hk
      rcases List.mem_cons.1 hk with rfl | hk
      · unfold scanAt at h0
        split at h0
        · simp at h0
        · rename_i h1
          split at h0
          · simp at h0
          · rename_i h2
            exact ⟨by simpa using h1, h2⟩
      · exact ih h k hk
    · rw [if_neg h0] at h; exact absurd h h0

/-- A card that is told whole by its attributes. -/
structure Full (d : Crd) : Prop where
  has : ∀ k, d.has k = true → inK k = true
  v : ∀ k, d.has k = false → d.v k = []
theorem attrs_mem (d : Crd) {x : KV} (h : x ∈ d.attrs) : ∃ k : Nat, d.has k = true ∧ x = ((k : Int), d.v k) := by
  rw [attrs_eq] at h
  obtain ⟨k, hk, rfl⟩ := List.mem_map.1 h
  exact ⟨k, (List.mem_filter.1 hk).2, rfl⟩
theorem attrs_ne (d : Crd) : d.attrs.Pairwise fun a b => a.1 ≠ b.1 := by
  rw [attrs_eq, List.pairwise_map]
  refine List.Pairwise.filter _ ?_
  exact List.Pairwise.imp (fun h e => by omega) (List.pairwise_lt_range (n := 19))
theorem Full.look {d : Crd} (_h : Full d) {k : Nat} (hk : inK k = true) : lookK d.attrs k = if d.has k = true then some (d.v k) else none := by
  by_cases hh : d.has k = true
  · rw [if_pos hh]
    have hm : ((k : Int), d.v k) ∈ d.attrs := by
      rw [attrs_eq]
      have := inK_lt hk
      exact List.mem_map.2 ⟨k, List.mem_filter.2 ⟨by simp; omega, hh⟩, rfl⟩
    exact lookK_mem (attrs_ne d) hm
  · rw [if_neg hh]
    cases hl : lookK d.attrs (k : Int) with
    | none => rfl
    | some b =>
      obtain ⟨m, hm, e⟩ := attrs_mem d (lookK_some hl)
      injection e with e1 e2
      obtain rfl : m = k := by omega
      exact absurd hm hh
theorem Full.card {d : Crd} (h : Full d) : cardOf d.attrs = d := by
  obtain ⟨dh, dv⟩ := d
  unfold cardOf
  congr 1
  · funext k
    cases hi : inK k with
    | false =>
      cases hh : dh k with
      | false => rfl
      | true => have := h.has k hh; rw [hi] at this; cases this
    | true =>
      rw [h.look hi]
      cases hh : dh k <;> simp [hh]
  · funext k
    by_cases hi : inK k = true
    · rw [if_pos hi, h.look hi]
      cases hh : dh k with
      | false => simp only [hh]; exact (h.v k hh).symm
      | true => simp [hh]
    · rw [if_neg hi]
      cases hh : dh k with
      | false => exact (h.v k hh).symm
      | true => exact absurd (h.has k hh) hi
/-- Full, and of values of their kinds: an object is valid just where the card is one. -/
theorem Full.valid {d : Crd} (h : Full d) (hf : ∀ k, d.has k = true → fitsB ((k : Int), d.v k) = true) : validK d.attrs = d.object := by
  rw [validK_eq]
  unfold validR
  have hg : Good d.attrs := ⟨by
      rw [attrs_eq, List.length_map]
      exact Nat.le_trans (List.length_filter_le _ _) (by simp), fun x hx => by
      obtain ⟨k, hk, rfl⟩ := attrs_mem d hx
      have := inK_lt (h.has k hk)
      constructor <;> simp <;> omega, fun x hx => by
      obtain ⟨k, hk, rfl⟩ := attrs_mem d hx
      exact hf k hk, attrs_ne d⟩
  rw [hg.zero, h.card]
  simp

/-! Made's card -/
section
variable {s : List KV} {C : Nat} {loc : Bool}
theorem madeU_has (k : Nat) : (madeU (cardOf s) C).has k = (decide (k < 19) && ((cardOf s).has k || dHas C k)) := by
  unfold madeU Crd.upon Crd.uponTo dTo
  simp only
  by_cases hk : k < 19
  · cases h : (cardOf s).has k <;> simp [hk]
  · have : (cardOf s).has k = false := by
      cases hh : (cardOf s).has k with
      | false => rfl
      | true => have := inK_lt (has_in hh); omega
    simp [hk]
theorem madeU_v (k : Nat) (hk : k < 19) : (madeU (cardOf s) C).v k = if (cardOf s).has k = true then (cardOf s).v k else dV C k := by
  unfold madeU Crd.upon Crd.uponTo dTo
  simp only [hk, true_and, if_true]
theorem madeD_has (k : Nat) : (madeD (cardOf s) C loc).has k = (madeU (cardOf s) C).has k := by
  unfold madeD
  split <;> rfl
theorem madeD_v_far {k : Nat} (h : k ≠ 10 ∧ k ≠ 11 ∧ k ≠ 12) : (madeD (cardOf s) C loc).v k = (madeU (cardOf s) C).v k := by
  unfold madeD
  split
  · simp only [Crd.setV, updB, if_neg h.1, if_neg h.2.1, if_neg h.2.2]
  · rfl
theorem madeD_v12 (h : C % 2 = 0) : (madeD (cardOf s) C loc).v 12 = flagB loc := by
  unfold madeD; rw [if_pos h]; rfl
theorem madeD_v10 (h : C % 2 = 0) : (madeD (cardOf s) C loc).v 10 = flagB (loc && (madeU (cardOf s) C).one 8) := by
  unfold madeD; rw [if_pos h]; rfl
theorem madeD_v11 (h : C % 2 = 0) : (madeD (cardOf s) C loc).v 11 = flagB (loc && !(madeU (cardOf s) C).one 9) := by
  unfold madeD; rw [if_pos h]; rfl
end
theorem flag_fits {k : Int} (hk : 4 < k) (b : Bool) : fitsB (k, flagB b) = true := by
  unfold fitsB
  simp only
  rw [if_neg (by omega), if_neg (by omega), if_neg (by omega)]
  cases b <;> rfl
theorem miss_fits (l : List At) {k : Int} (h1 : 2 ≤ k) (h4 : k ≠ 4) (C : Nat) (loc : Bool) : fitsB (k, missP l k C loc) = true := by
  unfold missP
  by_cases h23 : k = 2 ∨ k = 3
  · rw [if_pos h23]
    unfold fitsB
    simp only
    rw [if_neg (by omega), if_pos h23]; rfl
  · rw [if_neg h23]
    have h5 : 4 < k := by omega
    repeat' split
    all_goals exact flag_fits h5 _
theorem cls_in {s : List KV} (hg : Good s) (hc : clsL s ≠ 0) : (∃ b, lookK s 1 = some b) ∧ (clsL s = 1 ∨ clsL s = 2 ∨ clsL s = 3 ∨ clsL s = 4) := by
  unfold clsL at hc ⊢
  split at hc
  · rename_i b hb
    refine ⟨⟨_, hb⟩, ?_⟩
    have h1 := hg.fits _ (lookK_some hb)
    simp [fitsB, headB] at h1
    omega
  · exact absurd rfl hc
theorem even_of {C k : Nat} (hC : C = 1 ∨ C = 2 ∨ C = 3 ∨ C = 4) (hk : k ∈ kindsN C) (h : k = 10 ∨ k = 11 ∨ k = 12) : C % 2 = 0 := by
  rcases hC with rfl | rfl | rfl | rfl
  · exfalso; revert hk; rcases h with rfl | rfl | rfl <;> decide
  · rfl
  · exfalso; revert hk; rcases h with rfl | rfl | rfl <;> decide
  · rfl
theorem in_8 {C : Nat} (hC : C = 1 ∨ C = 2 ∨ C = 3 ∨ C = 4) (h : C % 2 = 0) : dHas C 8 = true ∧ dHas C 9 = true := by
  rcases hC with rfl | rfl | rfl | rfl
  · simp at h
  · decide
  · simp at h
  · decide
section
variable {l : List At} {C : Nat} {loc : Bool} (hg : Good (l.map At.kv)) (hcE : clsL (l.map At.kv) = C) (hc : C ≠ 0) (hs : scanK (kindsN C) ((l.map At.kv).map (·.1)) = 0) (h4 : lookK (l.map At.kv) 4 ≠ none)
include hg hcE hc hs h4
omit hg hcE hc h4 in
theorem made_has (k : Nat) : (madeD (cardOf (l.map At.kv)) C loc).has k = dHas C k := by
  rw [madeD_has, madeU_has]
  cases hh : (cardOf (l.map At.kv)).has k with
  | false =>
    by_cases hk : k < 19
    · simp [hk]
    · have : inK k = false := by simp [inK]; omega
      simp [hk, dHas, this]
  | true =>
    have hi := has_in hh
    have hk := inK_lt hi
    have hm : ((k : Nat) : Int) ∈ (l.map At.kv).map (·.1) := by
      rw [has_eq _ hi] at hh
      exact (some_iff _ _).1 hh
    have h1 := (scanK_zero hs _ hm).1
    rw [hasInt_eq] at h1
    have h2 : dHas C k = true := by unfold dHas; rw [hi, belongs_eq C hi, h1]; rfl
    rw [h2]; simp; omega
theorem made_v {k : Nat} (hk : k ∈ kindsN C) : (madeD (cardOf (l.map At.kv)) C loc).v k = (look l k).getD (missP l k C loc) := by
  have hi := kinds_in C k hk
  have hkr := inK_lt hi
  obtain ⟨⟨b1, hb1⟩, hC⟩ := cls_in hg (by rw [hcE]; exact hc)
  rw [hcE] at hC
  rw [look_kv]
  cases hl : lookK (l.map At.kv) (k : Int) with
  | some b =>
    have hh : (cardOf (l.map At.kv)).has k = true := by rw [has_eq _ hi, hl]; rfl
    have hm : ((k : Nat) : Int) ∈ (l.map At.kv).map (·.1) := by rw [← some_iff, hl]; rfl
    have h1 := (scanK_zero hs _ hm).2
    rw [madeD_v_far (by omega), madeU_v k (by omega), if_pos hh, v_eq _ hi, hl]; rfl
  | none =>
    have hh : (cardOf (l.map At.kv)).has k = false := by rw [has_eq _ hi, hl]; rfl
    have hd : dHas C k = true := by unfold dHas; rw [hi, belongs_eq C hi, List.contains_iff_mem.2 hk]; rfl
    have hone : ∀ m : Nat, inK m = true → dHas C m = true → 4 < m → (madeU (cardOf (l.map At.kv)) C).one m = if (lookK (l.map At.kv) m).isSome = true then lookOneK (l.map At.kv) m else (flagB (m == 7 || (m == 9 || (m == 6 && C % 2 == 0))) == [1]) := fun m hm hdm h4m => by
      have hmr := inK_lt hm
      unfold Crd.one lookOneK
      rw [madeU_v m (by omega), has_eq _ hm]
      cases hlm : lookK (l.map At.kv) (m : Int) with
      | none =>
        simp only [Option.isSome_none, Bool.false_eq_true, if_false]
        unfold dV
        rw [if_pos ⟨hdm, h4m⟩]
      | some b =>
        simp only [Option.isSome_some, if_true]
        rw [v_eq _ hm, hlm]; rfl
    simp only [Option.getD_none]
    by_cases k10 : k = 10
    · subst k10
      have ev := even_of hC hk (.inl rfl)
      rw [madeD_v10 ev, hone 8 (by decide) (in_8 hC ev).1 (by omega)]
      rw [show missP l ((10 : Nat) : Int) C loc = flagB (loc && lookOne l 8) from rfl, lookOne_kv]
      unfold lookOneK
      cases hl8 : lookK (l.map At.kv) ((8 : Nat) : Int) with
      | none => rfl
      | some b => rfl
    by_cases k11 : k = 11
    · subst k11
      have ev := even_of hC hk (.inr (.inl rfl))
      rw [madeD_v11 ev, hone 9 (by decide) (in_8 hC ev).2 (by omega)]
      rw [show missP l ((11 : Nat) : Int) C loc = flagB (loc && ((look l 9).isSome && !lookOne l 9)) from rfl, lookOne_kv, look_kv]
      unfold lookOneK
      cases hl9 : lookK (l.map At.kv) ((9 : Nat) : Int) with
      | none => rfl
      | some b => rfl
    by_cases k12 : k = 12
    · subst k12
      have ev := even_of hC hk (.inr (.inr rfl))
      rw [madeD_v12 ev]; rfl
    have k1 : k ≠ 1 := fun e => by
      subst e
      rw [show lookK (l.map At.kv) ((1 : Nat) : Int) = lookK (l.map At.kv) 1 from rfl, hb1] at hl; cases hl
    have k4 : k ≠ 4 := fun e => by subst e; exact h4 hl
    rw [madeD_v_far ⟨k10, k11, k12⟩, madeU_v k (by omega), if_neg (by rw [hh]; simp)]
    unfold dV missP
    by_cases h23 : k = 2 ∨ k = 3
    · rw [if_neg (by omega), if_pos (by omega)]
    · rw [if_pos ⟨hd, by omega⟩, if_neg (by omega)]
      by_cases k6 : k = 6
      · subst k6
        rw [if_pos (by decide)]
        rcases hC with rfl | rfl | rfl | rfl <;> rfl
      · rw [if_neg (by omega)]
        by_cases k79 : k = 7 ∨ k = 9
        · rw [if_pos (by omega)]
          rcases k79 with rfl | rfl <;> rfl
        · rw [if_neg (by omega), if_neg (by omega), if_neg (by omega), if_neg (by omega)]
          have e7 : (k == 7) = false := by rw [beq_eq_false_iff_ne]; omega
          have e9 : (k == 9) = false := by rw [beq_eq_false_iff_ne]; omega
          have e6 : (k == 6) = false := by rw [beq_eq_false_iff_ne]; omega
          rw [e7, e9, e6]; rfl
theorem made_attrs : (madeD (cardOf (l.map At.kv)) C loc).attrs = outP l C loc (kindsN C) := by
  rw [attrs_eq]
  have e1 : (List.range 19).filter (madeD (cardOf (l.map At.kv)) C loc).has = kindsN C := by
    rw [← kinds_filter C]
    exact List.filter_congr fun k _ => made_has hs k
  rw [e1]
  unfold outP outAt
  exact List.map_congr_left fun k hk => by rw [made_v hg hcE hc hs h4 hk]
omit h4 in
theorem made_full : Full (madeD (cardOf (l.map At.kv)) C loc) := by
  refine ⟨fun k hk => ?_, fun k hk => ?_⟩
  · rw [made_has hs] at hk
    simp only [dHas, Bool.and_eq_true] at hk
    exact hk.1
  · rw [made_has hs] at hk
    obtain ⟨-, hC⟩ := cls_in hg (by rw [hcE]; exact hc)
    rw [hcE] at hC
    have h10 : ∀ m, (m = 10 ∨ m = 11 ∨ m = 12) → C % 2 = 0 → dHas C m = true := by
      intro m hm ev
      rcases hC with rfl | rfl | rfl | rfl
      · simp at ev
      · rcases hm with rfl | rfl | rfl <;> decide
      · simp at ev
      · rcases hm with rfl | rfl | rfl <;> decide
    have hU : (madeD (cardOf (l.map At.kv)) C loc).v k = (madeU (cardOf (l.map At.kv)) C).v k := by
      by_cases ev : C % 2 = 0
      · refine madeD_v_far ⟨fun e => ?_, fun e => ?_, fun e => ?_⟩
        · rw [h10 k (.inl e) ev] at hk; cases hk
        · rw [h10 k (.inr (.inl e)) ev] at hk; cases hk
        · rw [h10 k (.inr (.inr e)) ev] at hk; cases hk
      · unfold madeD; rw [if_neg ev]
    have hh : (cardOf (l.map At.kv)).has k = false := by
      have h1 := made_has hs (loc := loc) k
      rw [madeD_has, madeU_has, hk] at h1
      cases hc2 : (cardOf (l.map At.kv)).has k with
      | false => rfl
      | true =>
        have := inK_lt (has_in hc2)
        rw [hc2] at h1
        simp at h1
        omega
    rw [hU]
    by_cases hk19 : k < 19
    · rw [madeU_v k hk19, if_neg (by rw [hh]; simp)]
      unfold dV
      rw [if_neg (by rw [hk]; simp)]
    · have hi : inK k = false := by simp [inK]; omega
      have hv : (cardOf (l.map At.kv)).v k = [] := by simp [cardOf, hi]
      unfold madeU Crd.upon Crd.uponTo dTo
      simp only [hk19, false_and, if_false]
theorem made_valid : validK (outP l C loc (kindsN C)) = (madeD (cardOf (l.map At.kv)) C loc).object := by
  rw [← made_attrs hg hcE hc hs h4]
  refine Full.valid (made_full hg hcE hc hs) fun k hk => ?_
  rw [made_has hs] at hk
  have hi : inK k = true := by
    simp only [dHas, Bool.and_eq_true] at hk
    exact hk.1
  have hkr := inK_lt hi
  have hm : k ∈ kindsN C := by
    unfold dHas at hk
    rw [hi, belongs_eq C hi] at hk
    exact List.contains_iff_mem.1 (by simpa using hk)
  rw [made_v hg hcE hc hs h4 hm, look_kv]
  obtain ⟨⟨b1, hb1⟩, -⟩ := cls_in hg (by rw [hcE]; exact hc)
  cases hl : lookK (l.map At.kv) (k : Int) with
  | some b => exact hg.fits _ (lookK_some hl)
  | none =>
    have k1 : k ≠ 1 := fun e => by
      subst e
      rw [show lookK (l.map At.kv) ((1 : Nat) : Int) = lookK (l.map At.kv) 1 from rfl, hb1] at hl; cases hl
    have k4 : k ≠ 4 := fun e => by subst e; exact h4 hl
    exact miss_fits l (by omega) (by omega) C loc
end
theorem make_eq (l : List At) (loc : Bool) : (makeP l loc).2 = (madeR (l.map At.kv) loc).2 ∧ (makeP l loc).1 = (madeR (l.map At.kv) loc).1.attrs := by
  unfold makeP madeR
  have hkm : l.map At.kind = (l.map At.kv).map (·.1) := by rw [List.map_map]; rfl
  by_cases hf : fault (l.map At.kv) = 0
  · have hg := good_of hf
    rw [if_neg (by simp [hf]), if_neg (by simp [hf]), cls_eq]
    generalize hcE : clsL (l.map At.kv) = C
    unfold makeP0 madeR0
    by_cases hc : C = 0
    · rw [if_pos hc, if_pos hc]; exact ⟨rfl, crd0_attrs.symm⟩
    · rw [if_neg hc, if_neg hc]
      unfold makeP1 madeR1
      obtain ⟨-, hC⟩ := cls_in hg (by rw [hcE]; exact hc)
      rw [hcE] at hC
      rw [hkm, scan_eq fun k hk => by
        obtain ⟨x, hx, rfl⟩ := List.mem_map.1 hk
        exact hg.kind x hx]
      by_cases hs : scanR C ((l.map At.kv).map (·.1)) = 0
      · rw [if_neg (fun h => h hs), if_neg (fun h => h hs)]
        have hs2 : scanK (kindsN C) ((l.map At.kv).map (·.1)) = 0 := by
          rw [scan_eq fun k hk => by
            obtain ⟨x, hx, rfl⟩ := List.mem_map.1 hk
            exact hg.kind x hx]
          exact hs
        unfold makeP2 madeR2
        rw [look_kv, has_eq _ (by decide : inK 4 = true), v_eq _ (by decide : inK 4 = true), show lookK (l.map At.kv) ((4 : Nat) : Int) = lookK (l.map At.kv) 4 from rfl]
        cases h4 : lookK (l.map At.kv) 4 with
        | none => exact ⟨rfl, crd0_attrs.symm⟩
        | some b =>
          simp only [Option.isSome_some, Option.getD_some, Bool.true_eq_false, if_false]
          rw [sized_eq hC]
          by_cases hz : sizedR C (b.length : Int) = false
          · rw [if_pos hz, if_pos hz]; exact ⟨rfl, crd0_attrs.symm⟩
          · rw [if_neg hz, if_neg hz]
            unfold makeP3 madeR3
            have h4' : lookK (l.map At.kv) 4 ≠ none := by rw [h4]; simp
            rw [made_valid hg hcE hc hs2 h4', ← made_attrs hg hcE hc hs2 h4' (loc := loc)]
            by_cases ho : (madeD (cardOf (l.map At.kv)) C loc).object = false
            · rw [if_pos ho, if_pos ho]; exact ⟨rfl, crd0_attrs.symm⟩
            · rw [if_neg ho, if_neg ho]; exact ⟨rfl, rfl⟩
      · rw [if_pos hs, if_pos hs]; exact ⟨rfl, crd0_attrs.symm⟩
  · rw [if_pos hf, if_pos hf]; exact ⟨rfl, crd0_attrs.symm⟩
end Go.Proofs.Ytakooljbkjnilaa
