/- RuleSees: whatever is handed in, the law's function returns true, and what was handed in reads as it did. No conditions. -/
import Derived.Test.YtjfiokicnacbfaaAttrL
import Derived.Test.YtjfiokicnacbfaaArgs
import Derived.Test.YtjfiokicnacbfaaArgs2
namespace Go.Proofs.Ytjfiokicnacbfaa.ruleSees
open Go.ChangeShapes Go.WideShapes Go.ChangeAt Go.RowKit

set_option maxRecDepth 100000 in
theorem open_attrs {H : Type} {enc : TypeId × Value → H} {w : World} {base b0 : Nat} {held : Bool} {r : Reach} {v : Value} {d : DataW H} {p : List MemPlace}
    (hv : Value.okWide Try.prog w r b0 29 v) (h : DataW.Trod enc Try.prog w base (fun _ => true) held 29 v d p) (hw : Wt Try.prog 29 d) :
    ∃ (A : Option Addr) (l : List At) (c : Nat), v = .slice A l.length c ∧ Ats w w.heap.size A l ∧ l.length ≤ 9223372036854775807 := by
  obtain ⟨fuel, hf⟩ := h
  obtain ⟨a0, n0, c0, rfl⟩ := okWide_slice Try.underlying29 hv
  obtain ⟨A, n, c, hv, hnc, hcm, -, hi⟩ := open_rows_wt Try.underlying29 Try.underlying105 (by kernel_rfl) (by kernel_rfl) hf hw
  obtain ⟨l, hl, hp⟩ := list_of n (fun i (x : At) => (∃ a, A = some a ∧ a.block < w.heap.size ∧ w.cell? (a.add (i * 2)) = some (.int .i64 x.kind) ∧ w.cell? (a.add (i * 2 + 1)) = some (.slice x.A x.body.length x.cap)) ∧
      Rd w w.heap.size x.A (bytesV x.body) ∧ x.body.length ≤ x.cap ∧ x.cap ≤ 140737488351232) (by
    intro i hin
    obtain ⟨a, rfl, hf⟩ := hi i hin
    obtain ⟨u0, y0, m0, c0, t0, -⟩ := hf 0 _ rfl
    obtain ⟨u1, y1, m1, c1, t1, w1⟩ := hf 1 _ rfl
    obtain ⟨z, hz, -, -⟩ := DataW.trod_int Try.underlying3 t0
    injection hz with hz
    subst hz
    obtain ⟨A', l', c', rfl, hr, h1, h2⟩ := open_bytes_wt Try.underlying28 Try.underlying5 (by kernel_rfl) (by kernel_rfl) t1 w1
    have hlt := cell_lt c0
    rw [addr_block] at hlt
    exact ⟨⟨z, A', c', l'⟩, ⟨a, rfl, hlt, c0, c1⟩, hr, h1, h2⟩)
  refine ⟨A, l, c, by rw [hl]; exact hv, ⟨fun j u hu => ?_, fun x hx => ?_⟩, by unfold maxLen at hcm; omega⟩
  · have hj : j / 2 < l.length := by
      rcases Nat.lt_or_ge (j / 2) l.length with h | h
      · exact h
      · exfalso
        obtain ⟨f1, f2⟩ := at_cells l (j / 2)
        rw [List.getElem?_eq_none h] at f1 f2
        rcases Nat.mod_two_eq_zero_or_one j with hm | hm
        · rw [show j = j / 2 * 2 by omega, f1] at hu; cases hu
        · rw [show j = j / 2 * 2 + 1 by omega, f2] at hu; cases hu
    obtain ⟨⟨a, e1, e2, e3, e4⟩, -⟩ := hp (j / 2) hj
    obtain ⟨f1, f2⟩ := at_cells l (j / 2)
    rw [List.getElem?_eq_getElem hj] at f1 f2
    refine ⟨a, e1, e2, ?_⟩
    rcases Nat.mod_two_eq_zero_or_one j with hm | hm
    · have e : j = j / 2 * 2 := by omega
      rw [e] at hu ⊢
      rw [f1] at hu
      rw [e3, ← hu]; rfl
    · have e : j = j / 2 * 2 + 1 := by omega
      rw [e] at hu ⊢
      rw [f2] at hu
      rw [e4, ← hu]; rfl
  · obtain ⟨i, hi', rfl⟩ := List.getElem_of_mem hx
    exact (hp i hi').2

theorem specIs {H : Type} (ds : List (DataW H)) (h : ds.length = 2) : Rows.ruleSeesSpec.fn H ds = { results := [.lit (.bool true)], args := ds } :=
  match ds, h with | [_, _], _ => rfl

theorem readable : ∀ t ∈ Try.f8.params.toList, Try.prog.readableRec t = true ∧ t < Try.prog.types.size := by
  have h : (Try.f8.params.toList.all fun t => Try.prog.readableRec t && decide (t < Try.prog.types.size)) = true := by kernel_rfl
  intro t ht
  have := List.all_eq_true.1 h t ht
  simpa using this

set_option maxRecDepth 100000 in
theorem lifted (os : Os) (started : os.Started) (H : Type) (enc : TypeId × Value → H) :
    ReturnsInHanded {} Try.checked os 8 .any (Rows.ruleSeesSpec.pre6 enc Try.prog Try.f8 Rows.ruleSeesRow.domain false) (Rows.ruleSeesSpec.post enc Try.prog Try.f8 false true false false) := by
  refine returnsInHanded_of_change_sized (C := Try.checked) own started (by kernel_rfl) Try.func8
    (ChangeSpec.witness6 (enc := enc) (C := Try.checked) false ⟨#[], #[.slice none 0 0, .int .i64 0], []⟩ 8 (by kernel_rfl) (by kernel_rfl) (by kernel_rfl) (by kernel_rfl)) ?_
  intro W base args ds gs before hval0 hW _ hreach _
  refine law_run laidOut readable rfl (by rfl) Try.underlying4 specIs hW ?_
  have hval : ∀ (j : Nat) t v, Try.f8.params[j]? = some t → args[j]? = some v → Value.okWide Try.prog W .any base t v := hval0
  have hlt : ∀ p ∈ before, p.block < W.heap.size := fun p hp => hW.lt p hp
  obtain ⟨p, q, hA0, hV, rfl, -, -⟩ := hW
  have hA : DataW.TrodAll enc Try.prog W 0 (fun _ => true) true Try.f8.params.toList args.toList ds p := hA0
  rw [Try.params8] at hA hval
  clear hA0 hval0
  obtain ⟨v0, v1, d0, d1, p0, p1, rfl, rfl, rfl, h0, h1⟩ := trodAll_two hA
  obtain ⟨k, rfl, -, -⟩ := val_i64 Try.underlying3 (hval 1 3 v1 rfl rfl)
  have hw : Wt Try.prog 29 d0 := wt_top hreach (j := 0) (by rw [Try.params8]; rfl) rfl
  obtain ⟨A, l, c, rfl, hI, hn⟩ := open_attrs (hval 0 29 v0 rfl rfl) h0 hw
  exact ruleSees A l c k W hI hn

theorem over : Rows.ruleSeesRow.holds Try.pinned (OpenSpec.ofChange Rows.ruleSeesSpec) :=
  OpenClaim.holds_of_wide 8 Try.f8 rfl rfl rfl rfl rfl rfl rfl ⟨rfl, rfl, rfl, rfl, rfl⟩ rfl rfl rfl rfl rfl (by kernel_rfl) Try.func8 (by kernel_rfl)
    (of_decide_eq_true (by kernel_rfl)) (by unfold Func.isWrapper; first | (rw [if_pos (by decide +kernel)]; kernel_rfl) | (rw [if_neg (by decide +kernel)]; exact ⟨rfl, rfl⟩))
    (fun os started H enc _ => lifted os started H enc)

theorem proved : Rows.RuleSeesSaid := over
#print axioms proved
end Go.Proofs.Ytjfiokicnacbfaa.ruleSees
