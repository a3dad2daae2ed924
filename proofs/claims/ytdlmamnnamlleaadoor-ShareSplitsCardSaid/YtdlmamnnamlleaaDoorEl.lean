/- Rules of the walk for a whole array or struct that lies among others: at whatever address, its cells known. No program is named here. -/
import Derived.Test.YtdlmamnnamlleaaDoorSl
import Derived.Test.YtdlmamnnamlleaaDoorPart
namespace Go.Proofs.YtdlmamnnamlleaaDoor
open Go Go.RowKit

/-- n cells at a pointer. -/
def LdOk (w : World) (n : Nat) : Value → Prop
  | .pointer (some ad) => ∀ j, j < n → (w.cell? (ad.add j)).isSome = true
  | _ => False
def ldC (w : World) (n : Nat) : Value → Array Value
  | .pointer (some ad) => arrV n fun j => (w.cell? (ad.add j)).getD undef
  | _ => #[]
section
variable {P : Program} {w : World} {n : Nat}
theorem LdOk.eq {v : Value} (h : LdOk w n v) : ∃ ad, v = .pointer (some ad) ∧ ∀ j, j < n → (w.cell? (ad.add j)).isSome = true := by
  unfold LdOk at h
  split at h
  · exact ⟨_, rfl, h⟩
  · exact h.elim
theorem run_load_el {ty : TypeId} {d : TypeDesc} (hu : P.underlying ty = some d) (hd : d.isRow = true) (hi : (P.info? ty).map (·.size) = some n) {v : Value} (h : LdOk w n v) :
    (Instr.loadAt ty v).run P w = .ok (.agg (ldC w n v)) w := by
  obtain ⟨ad, rfl, hc⟩ := h.eq
  have hl : (loadCells ad (ldC w n (.pointer (some ad))).toList.length).run P w = .ok (ldC w n (.pointer (some ad))).toList.toArray w :=
    run_loadCells_list (P := P) w ad _ (fun j v hv => by
      rw [Array.getElem?_toList] at hv
      have hj : j < n := by
        have := (Array.getElem?_eq_some_iff.1 hv).1
        simpa [ldC, arrV_size] using this
      unfold ldC at hv
      rw [arrV_at hj] at hv
      obtain ⟨u, hu⟩ := Option.isSome_iff_exists.1 (hc j hj)
      rw [hu] at hv ⊢
      exact hv)
  have hz : (ldC w n (.pointer (some ad))).toList.length = n := by simp [ldC, arrV_size]
  rw [hz] at hl
  have hagg : (isAgg ty).run P w = .ok true w := by
    unfold isAgg
    rw [Sem.run_bind, run_underlying hu w]
    cases d <;> simp_all
  cases hq : P.info? ty with
  | none => simp [hq] at hi
  | some i =>
    have hs : i.size = n := by simpa [hq] using hi
    simp [Instr.loadAt, Instr.sureAddr, loadVar, Sem.run_bind, hagg, sizeOf, typeInfo, hq, hs, hl]
variable {dst : Option Tmp} {x y : Operand} {tt : TypeId} {pos : String} {af : Array Edge} {gd : Option (Nat × Bool)} {a : Act} {K : Act → World → Prop} {Q : Exit → Act → World → Prop}
theorem wp_load_el {ty : TypeId} {d : TypeDesc} (hu : P.underlying ty = some d) (hd : d.isRow = true) (hi : (P.info? ty).map (·.size) = some n) (h : LdOk w n (a.eval x)) :
    Oper.wp P ⟨dst, .load ty x, tt, pos, af, gd⟩ a w K Q ↔ K (a.put dst (.agg (ldC w n (a.eval x)))) w := by
  have h1 := run_load_el (P := P) (w := w) hu hd hi h
  unfold Oper.wp execOp
  simp only [Sem.run_bind, Sem.run_pure, h1, Result.andThen_ok]
  exact Iff.rfl
theorem exec_load_el {ty : TypeId} {d : TypeDesc} (hu : P.underlying ty = some d) (hd : d.isRow = true) (hi : (P.info? ty).map (·.size) = some n) {ρ : Operand → Value} (h : LdOk w n (ρ x)) :
    (execOp ρ ⟨dst, .load ty x, tt, pos, af, gd⟩).run P w = .ok (.value (.agg (ldC w n (ρ x)))) w := by
  have h1 := run_load_el (P := P) (w := w) hu hd hi h
  unfold execOp
  simp only [Sem.run_bind, Sem.run_pure, h1, Result.andThen_ok]
/-- What is known of the cells of an element. -/
theorem ldOk_of {ad : Addr} {l : List Value} (hl : l.length = n) (h : ∀ j u, l[j]? = some u → w.cell? (ad.add j) = some u) : LdOk w n (.pointer (some ad)) := fun j hj => by
  rw [h j (l[j]'(by omega)) (List.getElem?_eq_getElem (by omega))]; rfl
theorem ldC_of {ad : Addr} {l : List Value} (hl : l.length = n) (h : ∀ j u, l[j]? = some u → w.cell? (ad.add j) = some u) : ldC w n (.pointer (some ad)) = l.toArray := by
  apply Array.ext_getElem?
  intro j
  unfold ldC
  by_cases hj : j < n
  · rw [arrV_at hj, h j (l[j]'(by omega)) (List.getElem?_eq_getElem (by omega))]
    simp [List.getElem?_eq_getElem (show j < l.length by omega)]
  · rw [Array.getElem?_eq_none (by rw [arrV_size]; omega), Array.getElem?_eq_none (by simp; omega)]
theorem ldOk_drew {v : Value} : LdOk w.drew n v ↔ LdOk w n v := Iff.rfl
theorem ldC_drew {v : Value} : ldC w.drew n v = ldC w n v := rfl
end
end Go.Proofs.YtdlmamnnamlleaaDoor
