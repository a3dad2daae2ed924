/- A slice of digests that came in, by its reading. -/
import Derived.Test.YtjfiokicnacbfaaDoorTree3
import Derived.Test.YtjfiokicnacbfaaDoorArgs2
namespace Go.Proofs.YtjfiokicnacbfaaDoor
open Go Go.RowKit Go.ChangeShapes Go.WideShapes Go.ChangeAt Go.Deep
set_option maxRecDepth 100000
section
variable {H : Type} {enc : TypeId × Value → H} {w : World} {base : Nat} {spare : Nat → Bool} {held : Bool}
/-- The 32 bytes of one. -/
theorem bytes_of_trod {fuel : Nat} {cs : List Value} {x : DataW H × List MemPlace} (h : DataW.trod enc Tryd.prog w base spare held fuel 31 cs = some x) : ∃ l : List UInt8, l.length = 32 ∧ cs = bytesV l := by
  obtain ⟨xs, m, rfl, hx, hlen, hn, hel⟩ := DataW.trod_array Tryd.underlying31 h
  have c1 : Tryd.prog.cellsOf 5 = 1 := by kernel_rfl
  have c32 : Tryd.prog.cellsOf 31 = 32 := by kernel_rfl
  rw [c32] at hlen
  obtain ⟨l, hl, hp⟩ := list_of 32 (fun i (b : UInt8) => cs[i]? = some (.int .u8 (b.toNat : Int))) (by
    intro i hi
    have h1 := hel i hi
    have hxi : xs[i]? = some (xs[i]'(by omega)) := List.getElem?_eq_getElem (by omega)
    rw [hxi, c1, Nat.mul_one] at h1
    obtain ⟨z, e1, -, hw⟩ := DataW.trod_int Tryd.underlying5 h1
    have hz := wf_u8 hw
    have h3 : ((cs.drop i).take 1)[0]? = some (.int .u8 z) := by rw [e1]; rfl
    rw [List.getElem?_take_of_lt (by omega), List.getElem?_drop, Nat.add_zero] at h3
    refine ⟨UInt8.ofNat z.toNat, ?_⟩
    rw [h3, UInt8.toNat_ofNat']
    congr 2
    omega)
  refine ⟨l, hl, ?_⟩
  apply List.ext_getElem?
  intro i
  by_cases hi : i < 32
  · rw [hp i (by omega)]
    simp [bytesV, List.getElem?_eq_getElem (show i < l.length by omega)]
  · rw [List.getElem?_eq_none (by omega), List.getElem?_eq_none (by rw [bytesV_length]; omega)]
theorem open_digests {fuel : Nat} {v : Value} {x : DataW H × List MemPlace} (h : DataW.trod enc Tryd.prog w base spare held fuel 45 [v] = some x) :
    ∃ (A : Option Addr) (P : List (List UInt8)) (c : Nat), v = .slice A P.length c ∧ Pt w A P c := by
  have c32 : Tryd.prog.cellsOf 31 = 32 := by kernel_rfl
  rcases open_slice Tryd.underlying45 h with ⟨hcs, -⟩ | ⟨a, len, cap, m, n, D, Pl, hcs, -, hl, hm, hmm, -, hi⟩
  · injection hcs with hv
    exact ⟨none, [], 0, hv, Rd.nil, fun x hx => by simp at hx, by simp, by omega⟩
  · injection hcs with hv
    obtain ⟨P, hP, hp⟩ := list_of len (fun i (l : List UInt8) => l.length = 32 ∧ a.block < w.heap.size ∧ ∀ j u, (bytesV l)[j]? = some u → w.cell? (a.add (32 * i + j)) = some u) (by
      intro i hil
      have him : i < m := by rw [hmm]; split <;> omega
      obtain ⟨cs', hc, ht'⟩ := hi i him
      obtain ⟨l, hl32, rfl⟩ := bytes_of_trod ht'
      rw [c32] at hc
      obtain ⟨-, hcl, hat⟩ := World.cells?_some hc
      have hat' : ∀ j u, (bytesV l)[j]? = some u → w.cell? (a.add (32 * i + j)) = some u := fun j u hu => by
        have hj : j < 32 := by have := (List.getElem?_eq_some_iff.1 hu).1; rw [bytesV_length] at this; omega
        have := hat j hj
        rw [addr_add, Nat.mul_comm] at this
        rw [this, hu]
      have hb := cell_lt (hat' 0 _ (List.getElem?_eq_getElem (by rw [bytesV_length]; omega)))
      rw [addr_block] at hb
      exact ⟨l, hl32, hb, hat'⟩)
    have hall : ∀ y ∈ P, y.length = 32 := fun y hy => by
      obtain ⟨i, hi', rfl⟩ := List.getElem_of_mem hy
      exact (hp i hi').1
    refine ⟨some a, P, cap, by rw [hP]; exact hv, fun j u hu => ?_, hall, by omega, by unfold maxLen at hm; omega⟩
    have hj : j < 32 * P.length := by have := (List.getElem?_eq_some_iff.1 hu).1; rwa [flat_len hall] at this
    have hq : j / 32 < P.length := by omega
    obtain ⟨h1, h2, h3⟩ := hp (j / 32) hq
    refine ⟨a, rfl, h2, ?_⟩
    have hlt : j % 32 < (bytesV P[j / 32]).length := by rw [bytesV_length, h1]; omega
    have := flat_at hall (List.getElem?_eq_getElem hq) (j % 32) _ (List.getElem?_eq_getElem hlt)
    rw [show 32 * (j / 32) + j % 32 = j by omega, hu] at this
    rw [Option.some.inj this]
    have h4 := h3 (j % 32) _ (List.getElem?_eq_getElem hlt)
    rwa [show 32 * (j / 32) + j % 32 = j by omega] at h4
end
end Go.Proofs.YtjfiokicnacbfaaDoor
