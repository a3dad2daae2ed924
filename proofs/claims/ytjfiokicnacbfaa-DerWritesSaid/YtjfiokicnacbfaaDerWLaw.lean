/- DerWrites: whatever is handed in, the law's function returns true, and what was handed in reads as it did. No conditions. -/
import Derived.Test.YtjfiokicnacbfaaDerW
import Derived.Test.YtjfiokicnacbfaaOpen
namespace Go.Proofs.Ytjfiokicnacbfaa.derWrites
open Go.ChangeShapes Go.WideShapes Go.ChangeAt Go.RowKit

theorem flat_len (l : List It) : (l.flatMap It.cells).length = 2 * l.length := by
  induction l with
  | nil => rfl
  | cons x r ih => simp only [List.flatMap_cons, List.length_append, ih, List.length_cons, It.cells, List.length_nil]; omega

set_option maxRecDepth 100000 in
theorem open_items {H : Type} {enc : TypeId × Value → H} {w : World} {base b0 : Nat} {spare : Nat → Bool} {held : Bool} {r : Reach} {v : Value} {d : DataW H} {p : List MemPlace}
    (hv : Value.okWide Try.prog w r b0 34 v) (h : DataW.Trod enc Try.prog w base spare held 34 v d p) :
    ∃ (A : Option Addr) (l : List It) (c : Nat), v = .slice A l.length c ∧ Its w w.heap.size A l ∧ l.length ≤ maxLen := by
  obtain ⟨fuel, hf⟩ := h
  obtain ⟨a0, n0, c0, rfl⟩ := okWide_slice Try.underlying34 hv
  obtain ⟨A, n, c, hv, hnc, hcm, hi⟩ := open_rows Try.underlying34 Try.underlying78 (by kernel_rfl) (by kernel_rfl) hf
  obtain ⟨l, hl, hp⟩ := list_of n (fun i (x : It) => (∃ a, A = some a ∧ a.block < w.heap.size ∧ w.cell? (a.add (i * 2)) = some (u8v x.tag) ∧ w.cell? (a.add (i * 2 + 1)) = some (.slice x.A x.body.length x.cap)) ∧
      Rd w w.heap.size x.A (bytesV x.body) ∧ x.body.length ≤ x.cap ∧ x.cap ≤ maxLen) (by
    intro i hin
    obtain ⟨a, rfl, hf⟩ := hi i hin
    obtain ⟨u0, y0, m0, c0, t0⟩ := hf 0 _ rfl
    obtain ⟨u1, y1, m1, c1, t1⟩ := hf 1 _ rfl
    obtain ⟨z, hz, -, hw⟩ := DataW.trod_int Try.underlying5 t0
    injection hz with hz
    subst hz
    obtain ⟨A', l', c', rfl, hr, h1, h2⟩ := open_bytes Try.underlying28 Try.underlying5 (by kernel_rfl) t1
    have hlt := cell_lt c0
    rw [addr_block] at hlt
    have hz := wf_u8 hw
    refine ⟨⟨UInt8.ofNat z.toNat, A', c', l'⟩, ⟨a, rfl, hlt, ?_, c1⟩, hr, h1, h2⟩
    have hc0 : w.cell? (a.add (i * 2)) = some (.int .u8 z) := c0
    rw [hc0]
    simp [UInt8.toNat_ofNat']
    omega)
  refine ⟨A, l, c, by rw [hl]; exact hv, ⟨fun j u hu => ?_, fun x hx => ?_⟩, by omega⟩
  · have hj : j / 2 < l.length := by
      have h2 := (List.getElem?_eq_some_iff.1 hu).1
      have h3 : (l.flatMap It.cells).length = 2 * l.length := flat_len l
      omega
    obtain ⟨⟨a, e1, e2, e3, e4⟩, -⟩ := hp (j / 2) hj
    obtain ⟨f1, f2⟩ := flat_cells l (j / 2)
    rw [List.getElem?_eq_getElem hj] at f1 f2
    refine ⟨a, e1, e2, ?_⟩
    rcases Nat.mod_two_eq_zero_or_one j with hm | hm
    · have e : j = j / 2 * 2 := by omega
      rw [e] at hu ⊢
      rw [f1] at hu
      rw [e3, ← hu]; rfl
    · have e : j = j / 2 * 2 + 1 := by omega
      rw [e] at hu ⊢
      rw [f2] at hu
      rw [e4, ← hu]; rfl
  · obtain ⟨i, hi', rfl⟩ := List.getElem_of_mem hx
    exact (hp i hi').2

theorem specIs {H : Type} (ds : List (DataW H)) (h : ds.length = 1) : Rows.derWritesSpec.fn H ds = { results := [.lit (.bool true)], args := ds } :=
  match ds, h with | [_], _ => rfl

theorem readable : ∀ t ∈ Try.f5.params.toList, Try.prog.readableRec t = true ∧ t < Try.prog.types.size := by
  have h : (Try.f5.params.toList.all fun t => Try.prog.readableRec t && decide (t < Try.prog.types.size)) = true := by kernel_rfl
  intro t ht
  have := List.all_eq_true.1 h t ht
  simpa using this

set_option maxRecDepth 100000 in
theorem lifted (os : Os) (started : os.Started) (H : Type) (enc : TypeId × Value → H) :
    ReturnsInHanded {} Try.checked os 5 .any (Rows.derWritesSpec.pre6 enc Try.prog Try.f5 Rows.derWritesRow.domain false) (Rows.derWritesSpec.post enc Try.prog Try.f5 false true false false) := by
  refine returnsInHanded_of_change_sized (C := Try.checked) own started (by kernel_rfl) Try.func5
    (ChangeSpec.witness6 (enc := enc) (C := Try.checked) false ⟨#[], #[.slice none 0 0], []⟩ 8 (by kernel_rfl) (by kernel_rfl) (by kernel_rfl) (by kernel_rfl)) ?_
  intro W base args ds gs before hval0 hW _ hreach _
  refine law_run laidOut readable rfl (by rfl) Try.underlying4 specIs hW ?_
  have hval : ∀ (j : Nat) t v, Try.f5.params[j]? = some t → args[j]? = some v → Value.okWide Try.prog W .any base t v := hval0
  have hlt : ∀ p ∈ before, p.block < W.heap.size := fun p hp => hW.lt p hp
  obtain ⟨p, q, hA0, hV, rfl, -, -⟩ := hW
  have hA : DataW.TrodAll enc Try.prog W 0 (fun _ => true) true Try.f5.params.toList args.toList ds p := hA0
  rw [Try.params5] at hA hval
  clear hA0 hval0
  obtain ⟨v0, d0, rfl, rfl, h0⟩ := trodAll_one hA
  obtain ⟨A, l, c, rfl, hI, hn⟩ := open_items (hval 0 34 v0 rfl rfl) h0
  exact derWrites A l c W hI hn

theorem over : Rows.derWritesRow.holds Try.pinned (OpenSpec.ofChange Rows.derWritesSpec) :=
  OpenClaim.holds_of_wide 5 Try.f5 rfl rfl rfl rfl rfl rfl rfl ⟨rfl, rfl, rfl, rfl, rfl⟩ rfl rfl rfl rfl rfl (by kernel_rfl) Try.func5 (by kernel_rfl)
    (of_decide_eq_true (by kernel_rfl)) (by unfold Func.isWrapper; first | (rw [if_pos (by decide +kernel)]; kernel_rfl) | (rw [if_neg (by decide +kernel)]; exact ⟨rfl, rfl⟩))
    (fun os started H enc _ => lifted os started H enc)

theorem proved : Rows.DerWritesSaid := over
#print axioms proved
end Go.Proofs.Ytjfiokicnacbfaa.derWrites
