/- attr.Over: plain law: one list laid over another. -/
import Derived.Test.YtdlmamnnamlleaaNo1
namespace Go.Proofs.Ytdlmamnnamlleaa
open Go.ChangeShapes Go.WideShapes Go.ChangeAt Go.RowKit
set_option maxHeartbeats 1000000

/-- top's attributes, and l's of other kinds. -/
def overK (l top : List KV) : List KV := top ++ l.filter fun x => (lookK top x.1).isNone
theorem len_of {s : List KV} (hk : ∀ x ∈ s, 1 ≤ x.1 ∧ x.1 ≤ 18) (hne : s.Pairwise fun a b => a.1 ≠ b.1) : s.length ≤ 19 := by
  have hp : s.Perm (cardOf s).attrs := (List.perm_ext_iff_of_nodup (nodup_of_ne hne) (nodup_of_ne (attrs_ne _))).2 fun x => by
    constructor
    · intro h
      have hk := hk x h
      obtain ⟨k, hk2⟩ : ∃ k : Nat, x.1 = (k : Int) := ⟨x.1.toNat, by omega⟩
      have hin : inK k = true := by simp [inK]; omega
      have hl := lookK_mem hne h
      rw [hk2] at hl
      rw [attrs_eq, List.mem_map]
      refine ⟨k, List.mem_filter.2 ⟨by rw [List.mem_range]; omega, by rw [has_eq s hin, hl]; rfl⟩, ?_⟩
      rw [v_eq s hin, hl, ← hk2]
      rfl
    · intro h
      obtain ⟨k, hk, rfl⟩ := attrs_mem _ h
      have hin := has_in hk
      rw [has_eq s hin] at hk
      rw [v_eq s hin]
      cases hl : lookK s k with
      | none => rw [hl] at hk; cases hk
      | some b => exact lookK_some hl
  rw [hp.length_eq]
  exact crd_to_len _ 19
theorem lookK_none {s : List KV} {k : Int} (h : (lookK s k).isNone = true) : ∀ x ∈ s, x.1 ≠ k := fun x hx he => by
  have h2 := (some_iff s k).2 (List.mem_map.2 ⟨x, hx, he⟩)
  cases hl : lookK s k with
  | none => rw [hl] at h2; cases h2
  | some b => rw [hl] at h; cases h
theorem over_good {l top : List KV} (hl : Good l) (ht : Good top) : Good (overK l top) := by
  have hk : ∀ x ∈ overK l top, 1 ≤ x.1 ∧ x.1 ≤ 18 := fun x hx => by
    rcases List.mem_append.1 hx with h | h
    · exact ht.kind x h
    · exact hl.kind x (List.mem_filter.1 h).1
  have hne : (overK l top).Pairwise fun a b => a.1 ≠ b.1 := by
    refine List.pairwise_append.2 ⟨ht.ne, hl.ne.filter _, fun a ha b hb => ?_⟩
    have h2 := (List.mem_filter.1 hb).2
    exact lookK_none h2 a ha
  refine ⟨Nat.le_trans (len_of hk hne) (by omega), hk, fun x hx => ?_, hne⟩
  rcases List.mem_append.1 hx with h | h
  · exact ht.fits x h
  · exact hl.fits x (List.mem_filter.1 h).1
theorem lookK_app (s t : List KV) (k : Int) : lookK (s ++ t) k = (lookK s k).or (lookK t k) := by
  unfold lookK
  rw [List.find?_append]
  cases s.find? (fun x => x.1 == k) <;> simp
theorem lookK_filter (l top : List KV) (k : Int) (h : lookK top k = none) : lookK (l.filter fun x => (lookK top x.1).isNone) k = lookK l k := by
  induction l with
  | nil => rfl
  | cons x r ih =>
    unfold lookK at *
    rw [List.filter_cons, List.find?_cons]
    by_cases hx : x.1 = k
    · have hb : (x.1 == k) = true := by simpa using hx
      have hn : (List.find? (fun y => y.1 == x.1) top).map (·.2) = none := by rw [hx]; exact h
      rw [hn]
      simp only [Option.isNone_none, if_true, List.find?_cons, hb]
    · have hb : (x.1 == k) = false := by simpa using hx
      rw [hb]
      split
      · rw [List.find?_cons, hb]; exact ih
      · exact ih
theorem over_look (l top : List KV) (k : Int) : lookK (overK l top) k = (lookK top k).or (lookK l k) := by
  unfold overK
  rw [lookK_app]
  cases h : lookK top k with
  | some b => rfl
  | none => rw [lookK_filter l top k h]
theorem over_card (l top : List KV) : cardOf (overK l top) = (cardOf l).upon (cardOf top) := by
  unfold Crd.upon Crd.uponTo
  have hh : ∀ s : List KV, ∀ k, (cardOf s).has k = (inK k && (lookK s k).isSome) := fun _ _ => rfl
  have hv : ∀ s : List KV, ∀ k, (cardOf s).v k = if inK k = true then (lookK s k).getD [] else [] := fun _ _ => rfl
  have e : ∀ c d : Crd, (∀ k, c.has k = d.has k) → (∀ k, c.v k = d.v k) → c = d := fun c d h1 h2 => by
    obtain ⟨a, b⟩ := c
    obtain ⟨a', b'⟩ := d
    congr 1
    · exact funext h1
    · exact funext h2
  refine e _ _ (fun k => ?_) fun k => ?_
  · simp only [hh, over_look]
    by_cases hin : inK k = true
    · have := inK_lt hin
      cases h : lookK top k with
      | some b => simp [hin, show k < 19 by omega]
      | none => simp
    · have hin : inK k = false := by simpa using hin
      simp [hin]
  · simp only [hh, hv, over_look]
    by_cases hin : inK k = true
    · have := inK_lt hin
      cases h : lookK top k with
      | some b => simp [hin, show k < 19 by omega]
      | none => simp
    · have hin : inK k = false := by simpa using hin
      simp [hin]
end Go.Proofs.Ytdlmamnnamlleaa
