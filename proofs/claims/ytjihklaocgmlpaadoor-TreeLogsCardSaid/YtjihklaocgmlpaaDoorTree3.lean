/- Contracts of package tree's climb and Check. -/
import Derived.Test.YtjihklaocgmlpaaDoorTree2
import Derived.Test.YtjihklaocgmlpaaDoorTreeP
import Derived.Test.YtjihklaocgmlpaaDoorRet2
import Derived.Test.YtjihklaocgmlpaaDoorEl
import Derived.Deep.DeepCutAuto
namespace Go.Proofs.YtjihklaocgmlpaaDoor
open Go.ChangeShapes Go.WideShapes Go.ChangeAt Go.RowKit
set_option maxHeartbeats 1000000
set_option maxRecDepth 100000

theorem halves : Halves halfN where
  lt := fun _ h => halfN_lt h
  le := fun _ h => halfN_le h
  even := fun n h => by
    unfold halfN
    have : 1 ≤ (n - 1).log2 := by
      rw [Nat.le_log2 (by omega)]; omega
    obtain ⟨j, hj⟩ : ∃ j, (n - 1).log2 = j + 1 := ⟨(n - 1).log2 - 1, by omega⟩
    rw [hj, Nat.pow_succ]; omega
  up := fun n h => by
    have h1 := halfN_lt (n := n) (by omega)
    have h2 := halfN_le (n := n) (by omega)
    unfold halfN at h1 h2
    have : 1 ≤ (n - 1).log2 := by
      rw [Nat.le_log2 (by omega)]; omega
    obtain ⟨j, hj⟩ : ∃ j, (n - 1).log2 = j + 1 := ⟨(n - 1).log2 - 1, by omega⟩
    have e : halfN n = 2 ^ j * 2 := by unfold halfN; rw [hj, Nat.pow_succ]
    rw [e]
    rw [hj, Nat.pow_succ] at h1 h2
    rw [halfN_of (n := (n + 1) / 2) (j := j) (by omega) (by omega)]
    omega

/-- A slice of digests. -/
def flat (P : List (List UInt8)) : List Value := P.flatMap bytesV
theorem flat_append (P R : List (List UInt8)) : flat (P ++ R) = flat P ++ flat R := by simp [flat]
theorem flat_len : ∀ {P : List (List UInt8)}, (∀ x ∈ P, x.length = 32) → (flat P).length = 32 * P.length
  | [], _ => rfl
  | x :: P, h => by
      have := flat_len (P := P) fun y hy => h y (by simp [hy])
      have h1 := h x (by simp)
      simp only [flat, List.flatMap_cons, List.length_append, bytesV_length, List.length_cons] at this ⊢
      omega
theorem flat_at {P : List (List UInt8)} (h : ∀ x ∈ P, x.length = 32) : ∀ {i : Nat} {x : List UInt8}, P[i]? = some x → ∀ j u, (bytesV x)[j]? = some u → (flat P)[32 * i + j]? = some u := by
  induction P with
  | nil => intro i x hx; simp at hx
  | cons y P ih =>
    intro i x hx j u hu
    have h1 := h y (by simp)
    cases i with
    | zero =>
      have : y = x := by simpa using hx
      subst this
      have hj : j < (bytesV y).length := (List.getElem?_eq_some_iff.1 hu).1
      show (bytesV y ++ flat P)[32 * 0 + j]? = _
      rw [List.getElem?_append_left (by omega), Nat.mul_zero, Nat.zero_add]
      exact hu
    | succ i =>
      show (bytesV y ++ flat P)[32 * (i + 1) + j]? = _
      rw [List.getElem?_append_right (by rw [bytesV_length]; omega), bytesV_length, h1, show 32 * (i + 1) + j - 32 = 32 * i + j by omega]
      exact ih (fun z hz => h z (by simp [hz])) (by simpa using hx) j u hu
structure Pt (w : World) (A : Option Addr) (P : List (List UInt8)) (c : Nat) : Prop where
  rd : Rd w w.heap.size A (flat P)
  all : ∀ x ∈ P, x.length = 32
  le : P.length ≤ c
  mx : c ≤ 9223372036854775807
theorem Pt.step {w w' : World} {A : Option Addr} {P : List (List UInt8)} {c : Nat} (hb : Below w.heap.size w w') (h : Pt w A P c) : Pt w' A P c := ⟨(h.rd.below hb).more hb.size, h.all, h.le, h.mx⟩
theorem Pt.init {w : World} {A : Option Addr} {P R : List (List UInt8)} {c : Nat} (h : Pt w A (P ++ R) c) : Pt w A P c :=
  ⟨fun j u hu => h.rd j u (by rw [flat_append, List.getElem?_append_left (List.getElem?_eq_some_iff.1 hu).1]; exact hu), fun x hx => h.all x (by simp [hx]), by have := h.le; simp at this; omega, h.mx⟩
section
variable {V : World} {B : Nat} {ad : Addr} {P : List (List UInt8)} {m : Nat} {x : List UInt8}
theorem el_cells (h : Rd V B (some ad) (flat P)) (ha : ∀ x ∈ P, x.length = 32) (hx : P[m]? = some x) : ∀ j u, (bytesV x)[j]? = some u → V.cell? ((ad.add (m * 32)).add j) = some u := fun j v hv => by
  rw [addr_add]
  exact h.all (j := m * 32 + j) (u := v) (by rw [Nat.mul_comm]; exact flat_at ha hx j v hv)
theorem el_ok (h : Rd V B (some ad) (flat P)) (ha : ∀ x ∈ P, x.length = 32) (hx : P[m]? = some x) : LdOk V 32 (.pointer (some (ad.add (m * 32)))) :=
  ldOk_of (by rw [bytesV_length]; exact ha x (List.mem_of_getElem? hx)) (el_cells h ha hx)
theorem el_ld (h : Rd V B (some ad) (flat P)) (ha : ∀ x ∈ P, x.length = 32) (hx : P[m]? = some x) : ldC V 32 (.pointer (some (ad.add (m * 32)))) = dgA x := by
  have hxl := ha x (List.mem_of_getElem? hx)
  rw [ldC_of (by rw [bytesV_length]; exact hxl) (el_cells h ha hx), ← dgA_bytes hxl]
end
section
variable {w : World} {dst : Option Tmp} {x : Operand} {tt : TypeId} {pos : String} {af : Array Edge} {gd : Option (Nat × Bool)} {a : Act} {K : Act → World → Prop} {Q : Exit → Act → World → Prop}
theorem load_e32 (h : LdOk w 32 (a.eval x)) : Oper.wp Tryd.prog ⟨dst, .load 28 x, tt, pos, af, gd⟩ a w K Q ↔ K (a.put dst (.agg (ldC w 32 (a.eval x)))) w := wp_load_el Tryd.underlying28 rfl (by kernel_rfl) h
theorem execl_e32 {ρ : Operand → Value} (h : LdOk w 32 (ρ x)) : (execOp ρ ⟨dst, .load 28 x, tt, pos, af, gd⟩).run Tryd.prog w = .ok (.value (.agg (ldC w 32 (ρ x)))) w := exec_load_el Tryd.underlying28 rfl (by kernel_rfl) h
end
attribute [local irreducible] arrV dgA sha
attribute [local go_sem ↓] load_o32 store_o32 execl_o32 execs_o32 load_e32 execl_e32
attribute [local go_sem] isHead_mk isPart_mk offOf_mk blkOf_mk isAgg_mk cellsV_mk row_drew rowAt_drew row_new_cells row_old rowAt_new rowAt_old kp_refl kp_alloc kp_setCell kp_setRow kp_drew kp_drewN zeroD ldOk_drew ldC_drew
theorem S32 : SlT Tryd.prog 23 28 32 32 := SlT.mk' Tryd.underlying23 (by kernel_rfl) (by omega)
theorem climb_len {K : Nat → W32} : ∀ (r : List (List UInt8)) (f n i : Nat) (d : List UInt8), d.length = 32 → (climbR (nodeL K) halfN f n i d r).1.length = 32
  | _, 0, _, _, d, h => h
  | [], f + 1, n, i, d, h => by unfold climbR; split <;> exact h
  | last :: r, f + 1, n, i, d, h => by
      unfold climbR
      split
      · exact h
      · by_cases hik : i < halfN n
        · simp only [hik, if_true]; exact node_len _ _ _
        · simp only [hik, if_false]; exact node_len _ _ _
end Go.Proofs.YtjihklaocgmlpaaDoor
