/- DerNumbers, where what is read is of bulk at most 1048576: whatever is handed in, the law's function returns true, and what was handed in reads as it did. Condition: the bulk. -/
import Derived.Test.YtjihklaocgmlpaaDnL
import Derived.Test.YtjihklaocgmlpaaArgs
import Derived.Test.YtjihklaocgmlpaaArgs2
import Derived.Test.YtjihklaocgmlpaaRows
import Derived.JoinedCond
namespace Go.Proofs.Ytjihklaocgmlpaa.derNumbers
open Go.ChangeShapes Go.WideShapes Go.ChangeAt Go.RowKit
open Go.ChangeMaps (open_string)

theorem one_le {H : Type} (d : DataW H) : 1 ≤ Rows.uptoBulk d := by
  cases d with
  | lit l => cases l <;> simp [Rows.uptoBulk]
  | nil => simp [Rows.uptoBulk]
  | ptr d => simp [Rows.uptoBulk]
  | slice elems spare => simp [Rows.uptoBulk]
  | agg parts => simp [Rows.uptoBulk]
  | iface t d => simp [Rows.uptoBulk]
  | map entries => simp [Rows.uptoBulk]
  | held h => simp [Rows.uptoBulk]
theorem length_le {H : Type} (l : List (DataW H)) : l.length ≤ Rows.uptoBulkAll l := by
  induction l with
  | nil => simp [Rows.uptoBulkAll]
  | cons x r ih => have := one_le x; simp only [Rows.uptoBulkAll, List.length_cons]; omega
theorem slice_le {H : Type} (elems spare : List (DataW H)) : elems.length + spare.length + 1 ≤ Rows.uptoBulk (.slice elems spare) := by
  have h1 := length_le elems
  have h2 := length_le spare
  simp only [Rows.uptoBulk]
  omega
theorem string_eq {H : Type} (bytes : List UInt8) : Rows.uptoBulk (DataW.lit (H := H) (.string bytes)) = bytes.length + 1 := by
  simp [Rows.uptoBulk]
section
variable {H : Type} {enc : TypeId × Value → H} {P : Program} {w : World} {base : Nat} {held : Bool}
theorem bytes_bulk {t e : TypeId} {fuel : Nat} {v : Value} {x : DataW H × List MemPlace} (ht : P.underlying t = some (.slice e)) (he : P.underlying e = some (.int .u8)) (hc : P.cellsOf e = 1)
    (h : DataW.trod enc P w base (fun _ => true) held fuel t [v] = some x) : ∃ (A : Option Addr) (l : List UInt8) (c : Nat), v = .slice A l.length c ∧ Rd w w.heap.size A (bytesV l) ∧ l.length ≤ c ∧ l.length ≤ Rows.uptoBulk x.1 := by
  obtain ⟨A, l, c, rfl, h1, h2, h3⟩ := open_bytes ht he hc h
  refine ⟨A, l, c, rfl, h1, h2, ?_⟩
  rcases open_ints ht he hc h with ⟨hcs, -⟩ | ⟨a, len, cap, zs, hcs, -, hl, hm, hz, hx, -, -⟩
  · simp only [List.cons.injEq, Value.slice.injEq, and_true] at hcs
    omega
  · rw [hx]
    simp only [List.cons.injEq, Value.slice.injEq, and_true] at hcs
    simp only [if_true] at hz
    refine Nat.le_trans ?_ (slice_le _ _)
    simp [lits]
    omega
end

theorem specIs {H : Type} (ds : List (DataW H)) (h : ds.length = 3) : Rows.derNumbersSpec.fn H ds = { results := [.lit (.bool true)], args := ds } :=
  match ds, h with | [_, _, _], _ => rfl
theorem readable : ∀ t ∈ Try.f3.params.toList, Try.prog.readableRec t = true ∧ t < Try.prog.types.size := by
  have h : (Try.f3.params.toList.all fun t => Try.prog.readableRec t && decide (t < Try.prog.types.size)) = true := by kernel_rfl
  intro t ht
  have := List.all_eq_true.1 h t ht
  simpa using this
set_option maxRecDepth 100000 in
theorem lifted (os : Os) (started : os.Started) (H : Type) (enc : TypeId × Value → H) (F : Stop.Interp) :
    ReturnsInHanded {} Try.checked os 3 .any ((Rows.OpenSpec.upto Rows.derNumbersSpec).pre6 enc Try.prog Try.f3 Rows.derNumbersUptoRow.domain false) (((Rows.OpenSpec.upto Rows.derNumbersSpec).at F).post enc Try.prog Try.f3 false true false false) := by
  refine returnsInHanded_of_cond (C := Try.checked) (s := Rows.OpenSpec.upto Rows.derNumbersSpec) (k := Rows.uptoSmall) rfl own started (by kernel_rfl) Try.func3
    (OpenSpec.witness (enc := enc) (C := Try.checked) (s := Rows.OpenSpec.upto Rows.derNumbersSpec) (k := Rows.uptoSmall) rfl false ⟨#[], #[.agg #[.int .u64 0, .int .u64 0, .int .u64 0, .int .u64 0], .slice none 0 0, .string .empty], []⟩ 8 (by kernel_rfl) (by kernel_rfl) (by kernel_rfl)
      (x := ([.agg [.lit (.int .u64 0), .lit (.int .u64 0), .lit (.int .u64 0), .lit (.int .u64 0)], .nil, .lit (.string [])], [], [])) (by kernel_rfl) rfl (by kernel_rfl)) ?_
  intro W base args ds gs before hval0 hW _ hk _
  refine law_run laidOut readable rfl (by rfl) Try.underlying4 specIs hW ?_
  have hval : ∀ (j : Nat) t v, Try.f3.params[j]? = some t → args[j]? = some v → Value.okWide Try.prog W .any base t v := hval0
  obtain ⟨p, q, hA0, hV, rfl, -, -⟩ := hW
  obtain ⟨rfl, rfl⟩ := trodVars_none hV
  have hA : DataW.TrodAll enc Try.prog W 0 (fun _ => true) true Try.f3.params.toList args.toList ds p := hA0
  rw [Try.params3] at hA hval
  clear hA0 hval0
  rw [List.append_nil] at hk
  obtain ⟨v0, v1, v2, d0, d1, d2, p0, p1, p2, rfl, rfl, rfl, h0, h1, h2⟩ := trodAll_three hA
  have hbulk : Rows.uptoBulkAll [d0, d1, d2] ≤ 1048576 := of_decide_eq_true hk
  simp only [Rows.uptoBulkAll] at hbulk
  obtain ⟨fa, rfl, ha⟩ := val_arr (m := 18446744073709551616) (fun z hz => has_u64 hz) Try.underlying24 Try.underlying22 (by kernel_rfl) (by kernel_rfl) (hval 0 24 v0 rfl rfl)
  obtain ⟨a1, n1, c1, rfl⟩ := okWide_slice Try.underlying25 (hval 1 25 v1 rfl rfl)
  obtain ⟨s, rfl, rfl, -, -⟩ := open_string Try.underlying9 (hval 2 9 v2 rfl rfl) h2
  obtain ⟨fu1, hf1⟩ := h1
  obtain ⟨A, l, c, e1, hr1, hl1, hm1⟩ := bytes_bulk Try.underlying25 Try.underlying5 (by kernel_rfl) hf1
  rw [string_eq] at hbulk
  have hm1' : l.length ≤ Rows.uptoBulk d1 := hm1
  have e2 := wval_lt ha
  have h := derNumbers (wval fa 4) A l l.length c s.data.toList W e2 hr1 rfl hl1 (by omega) (by omega)
  unfold numV at h
  rw [arrK_congr (wd_wval ha)] at h
  rw [e1]
  exact h
theorem proved : Rows.DerNumbersUptoSaid :=
  OpenClaim.holds_of_cond 3 Try.f3 rfl rfl rfl rfl rfl rfl rfl ⟨rfl, rfl, rfl, rfl, rfl⟩ rfl rfl rfl rfl rfl (by kernel_rfl) Try.func3 (by kernel_rfl)
    (of_decide_eq_true (by kernel_rfl)) (by unfold Func.isWrapper; first | (rw [if_pos (by decide +kernel)]; kernel_rfl) | (rw [if_neg (by decide +kernel)]; exact ⟨rfl, rfl⟩))
    (fun os started H enc _ F => lifted os started H enc F)
#print axioms proved
end Go.Proofs.Ytjihklaocgmlpaa.derNumbers
