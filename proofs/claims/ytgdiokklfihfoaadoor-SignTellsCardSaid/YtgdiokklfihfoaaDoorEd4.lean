/- n times a point, by the program's fractions and by the document's. -/
import Derived.Test.YtgdiokklfihfoaaDoorEd3
namespace Go.Proofs.YtgdiokklfihfoaaDoor
set_option maxHeartbeats 2000000
/-- A point's places as numbers modulo P. -/
def ptP (x y : Nat) : Fin fP × Fin fP := (fi fP x, fi fP y)
/-- n times a point. -/
def tmP (x y k : Nat) : Fin fP × Fin fP := edMul (fi fP dN) ivP (ptP x y) k
theorem fi_dif (a b : Nat) : fi fP (difP a b) = fi fP a - fi fP b := fi_sub a b
theorem fi_lessM (a e : Nat) : fi fP (lessM a (e % fP)) = fi fP a - fi fP (e % fP) := fi_less a _ lt_P
theorem on_ed {x y : Nat} (h : onB x y = true) : edOn (fi fP dN) (ptP x y) := by
  unfold onB at h
  rw [Bool.and_eq_true, Bool.and_eq_true, decide_eq_true_eq, decide_eq_true_eq, decide_eq_true_eq] at h
  have h1 := congrArg (fi fP) h.2
  simp only [fi_dif, fi_add, fi_one, fi_mul] at h1
  unfold edOn ptP
  simp only
  rw [h1]
  generalize fi fP x = a
  generalize fi fP y = b
  generalize fi fP dN = d
  clear h1 h
  grind
structure RpN (p : Fin fP × Fin fP) (X Y Z : Nat) : Prop where
  r : Rp p (fi fP X) (fi fP Y) (fi fP Z)
structure RpQ (p : Fin fP × Fin fP) (X Y Z T : Nat) : Prop where
  r : Rp p (fi fP X) (fi fP Y) (fi fP Z)
  t : fi fP T = p.1 * p.2 * fi fP Z
theorem tm_on {x y : Nat} (h : onB x y = true) (k : Nat) : edOn (fi fP dN) (tmP x y k) := edP.mul_on (on_ed h) k
theorem tm_add {x y : Nat} (h : onB x y = true) (a b : Nat) : edAdd (fi fP dN) ivP (tmP x y a) (tmP x y b) = tmP x y (a + b) := edP.mul_add (on_ed h) a b
theorem tm_one {x y : Nat} : tmP x y 1 = ptP x y := edP.mul_one
theorem tm_zero {x y : Nat} : tmP x y 0 = (0, 1) := rfl
theorem rpN_zero {x y : Nat} : RpN (tmP x y 0) 0 1 1 := ⟨by
  rw [tm_zero, fi_zero, fi_one]
  exact ⟨by simp only; grind, by simp only; grind, edP.one⟩⟩
theorem rpQ_zero {x y : Nat} : RpQ (tmP x y 0) 0 1 1 (0 * 1 % fP) := ⟨rpN_zero.r, by
  rw [tm_zero, fi_one, Nat.zero_mul, fi_mod, fi_zero]
  simp only
  grind⟩
theorem rpN_one {x y : Nat} : RpN (tmP x y 1) x y 1 := ⟨by
  rw [tm_one, fi_one]
  unfold ptP
  exact ⟨by simp only; grind, by simp only; grind, edP.one⟩⟩
theorem rpQ_one {x y : Nat} : RpQ (tmP x y 1) x y 1 (x * y % fP) := ⟨rpN_one.r, by
  rw [tm_one, fi_one, fi_mul]
  unfold ptP
  simp only
  grind⟩
theorem rpN_mod {p : Fin fP × Fin fP} {X Y Z : Nat} (h : RpN p X Y Z) : RpN p (X % fP) (Y % fP) Z := ⟨by rw [fi_mod, fi_mod]; exact h.r⟩
theorem rpN_plus {x y : Nat} (h : onB x y = true) {a b X1 Y1 Z1 X2 Y2 Z2 : Nat} (h1 : RpN (tmP x y a) X1 Y1 Z1) (h2 : RpN (tmP x y b) X2 Y2 Z2) {r : Nat × Nat × Nat} (hr : rplus X1 Y1 Z1 X2 Y2 Z2 = r) : RpN (tmP x y (a + b)) r.1 r.2.1 r.2.2 := by
  subst hr
  refine ⟨?_⟩
  rw [← tm_add h]
  have k := edP.rplus (tm_on h a) (tm_on h b) h1.r h2.r rfl rfl rfl rfl rfl
  unfold rplus
  simp only
  simp only [fi_lessM, fi_mul, fi_add]
  exact k
theorem rpQ_plus {x y : Nat} (h : onB x y = true) {a b X1 Y1 Z1 T1 X2 Y2 Z2 T2 : Nat} (h1 : RpQ (tmP x y a) X1 Y1 Z1 T1) (h2 : RpQ (tmP x y b) X2 Y2 Z2 T2) {r : Nat × Nat × Nat × Nat} (hr : qplus X1 Y1 Z1 T1 X2 Y2 Z2 T2 = r) : RpQ (tmP x y (a + b)) r.1 r.2.1 r.2.2.1 r.2.2.2 := by
  subst hr
  rw [← tm_add h]
  have k := edP.qplus (tm_on h a) (tm_on h b) h1.r h2.r h1.t h2.t rfl rfl rfl rfl rfl rfl rfl rfl rfl rfl
  unfold qplus
  simp only
  exact ⟨by simp only [fi_mul, fi_add, fi_dif]; exact k.1, by simp only [fi_mul, fi_add, fi_dif]; exact k.2⟩
theorem rpN_out {p : Fin fP × Fin fP} {X Y Z : Nat} (h : RpN p X Y Z) : X * invP Z % fP = p.1.val ∧ Y * invP Z % fP = p.2.val := by
  have k := h.r.out edP
  rw [ivP_fi, ← fi_mul, ← fi_mul] at k
  have e1 := congrArg Fin.val k.1
  have e2 := congrArg Fin.val k.2
  rw [fi_val, Nat.mod_mod] at e1 e2
  exact ⟨e1, e2⟩
end Go.Proofs.YtgdiokklfihfoaaDoor
