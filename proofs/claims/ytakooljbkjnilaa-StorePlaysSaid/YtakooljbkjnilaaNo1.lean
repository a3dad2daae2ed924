/- Attributes in rising order: a sorted permutation of a good list is what its card lists. Plain law. -/
import Derived.Test.YtakooljbkjnilaaRu18
namespace Go.Proofs.Ytakooljbkjnilaa
open Go.ChangeShapes Go.WideShapes Go.ChangeAt Go.RowKit
set_option maxHeartbeats 1000000

theorem attrs_lt (d : Crd) : d.attrs.Pairwise fun a b => a.1 < b.1 := by
  rw [attrs_eq, List.pairwise_map]
  refine List.Pairwise.filter _ ?_
  exact List.Pairwise.imp (fun h => by omega) (List.pairwise_lt_range (n := 19))
theorem good_mem {s : List KV} (hg : Good s) (x : KV) : x ∈ (cardOf s).attrs ↔ x ∈ s := by
  constructor
  · intro h
    obtain ⟨k, hk, rfl⟩ := attrs_mem _ h
    have hin := has_in hk
    rw [has_eq s hin] at hk
    rw [v_eq s hin]
    cases hl : lookK s k with
    | none => rw [hl] at hk; cases hk
    | some b => exact lookK_some hl
  · intro h
    have hk := hg.kind x h
    obtain ⟨k, hk2⟩ : ∃ k : Nat, x.1 = (k : Int) := ⟨x.1.toNat, by omega⟩
    have hin : inK k = true := by simp [inK]; omega
    have hl := lookK_mem hg.ne h
    rw [hk2] at hl
    rw [attrs_eq, List.mem_map]
    refine ⟨k, List.mem_filter.2 ⟨by rw [List.mem_range]; omega, by rw [has_eq s hin, hl]; rfl⟩, ?_⟩
    rw [v_eq s hin, hl, ← hk2]
    rfl
theorem nodup_of_ne {s : List KV} (h : s.Pairwise fun a b => a.1 ≠ b.1) : s.Nodup := List.Pairwise.imp (fun h e => h (by rw [e])) h
/-- What a good list is, sorted by kind: just what its card lists. -/
theorem sorted_eq {s s' : List KV} (hg : Good s) (hp : s'.Perm s) (hs : s'.Pairwise fun a b => a.1 ≤ b.1) : s' = (cardOf s).attrs := by
  have hp2 : s.Perm (cardOf s).attrs := (List.perm_ext_iff_of_nodup (nodup_of_ne hg.ne) (nodup_of_ne (attrs_ne _))).2 fun x => (good_mem hg x).symm
  have hne : s'.Pairwise fun a b => a.1 ≠ b.1 := (List.Perm.pairwise_iff (fun h e => h e.symm) hp).2 hg.ne
  have hlt : s'.Pairwise fun a b => a.1 < b.1 := List.Pairwise.imp₂ (fun a b h1 h2 => by omega) hs hne
  refine List.Perm.eq_of_pairwise (le := fun a b : KV => a.1 < b.1) (fun a b _ _ h1 h2 => by omega) hlt (attrs_lt _) (hp.trans hp2)
end Go.Proofs.Ytakooljbkjnilaa
