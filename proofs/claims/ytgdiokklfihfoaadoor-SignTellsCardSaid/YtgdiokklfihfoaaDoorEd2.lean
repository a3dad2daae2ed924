/- Multiples of a point, and points as fractions, over a ring without zero divisors. No program is named here. -/
import Derived.Test.YtgdiokklfihfoaaDoorEd
namespace Go.Proofs.YtgdiokklfihfoaaDoor
set_option maxHeartbeats 2000000
section
variable {n : Nat} [NeZero n] {d : Fin n} {iv : Fin n → Fin n}
/-- A point, so often. -/
def edMul (d : Fin n) (iv : Fin n → Fin n) (p : Fin n × Fin n) : Nat → Fin n × Fin n
  | 0 => (0, 1)
  | k + 1 => edAdd d iv (edMul d iv p k) p
theorem edOn_zero : edOn d (0, 1) := by unfold edOn; simp only; grind
theorem EdOk.iv_one (h : EdOk n d iv) : iv 1 = 1 := by
  have := h.inv 1 h.one
  grind
theorem EdOk.add_zero (h : EdOk n d iv) (p : Fin n × Fin n) : edAdd d iv p (0, 1) = p := by
  obtain ⟨x, y⟩ := p
  unfold edAdd
  simp only
  rw [show 1 + d * x * 0 * y * 1 = 1 by grind, show 1 - d * x * 0 * y * 1 = 1 by grind, h.iv_one]
  refine Prod.ext ?_ ?_
  · simp only; grind
  · simp only; grind
theorem EdOk.mul_on (h : EdOk n d iv) {p : Fin n × Fin n} (hp : edOn d p) : ∀ k, edOn d (edMul d iv p k)
  | 0 => edOn_zero
  | k + 1 => h.add_on (h.mul_on hp k) hp
theorem EdOk.mul_add (h : EdOk n d iv) {p : Fin n × Fin n} (hp : edOn d p) (a : Nat) : ∀ b, edAdd d iv (edMul d iv p a) (edMul d iv p b) = edMul d iv p (a + b)
  | 0 => h.add_zero _
  | b + 1 => by
    show edAdd d iv (edMul d iv p a) (edAdd d iv (edMul d iv p b) p) = edAdd d iv (edMul d iv p (a + b)) p
    rw [← h.add_assoc (h.mul_on hp a) (h.mul_on hp b) hp, h.mul_add hp a b]
theorem EdOk.mul_one (h : EdOk n d iv) {p : Fin n × Fin n} : edMul d iv p 1 = p := by
  show edAdd d iv (0, 1) p = p
  obtain ⟨x, y⟩ := p
  unfold edAdd
  simp only
  rw [show 1 + d * 0 * x * 1 * y = 1 by grind, show 1 - d * 0 * x * 1 * y = 1 by grind, h.iv_one]
  refine Prod.ext ?_ ?_
  · simp only; grind
  · simp only; grind
/-- A point as a fraction. -/
structure Rp (p : Fin n × Fin n) (X Y Z : Fin n) : Prop where
  x : X = p.1 * Z
  y : Y = p.2 * Z
  z : Z ≠ 0
theorem Rp.out (h : EdOk n d iv) {p : Fin n × Fin n} {X Y Z : Fin n} (r : Rp p X Y Z) : X * iv Z = p.1 ∧ Y * iv Z = p.2 := by
  have hi := h.inv _ r.z
  rw [r.x, r.y]
  generalize iv Z = u at *
  constructor <;> grind
theorem rp_s {x1 y1 x2 y2 Z1 Z2 x3 D : Fin n} (h : x3 * (1 + D) = x1 * y2 + y1 * x2) : Z1 * Z2 * (Z1 * Z2 * (Z1 * Z2) - D * (Z1 * Z2 * (Z1 * Z2))) * (x1 * Z1 * (y2 * Z2) + y1 * Z1 * (x2 * Z2)) = x3 * ((Z1 * Z2 * (Z1 * Z2) - D * (Z1 * Z2 * (Z1 * Z2))) * (Z1 * Z2 * (Z1 * Z2) + D * (Z1 * Z2 * (Z1 * Z2)))) := by
  have e : x1 * Z1 * (y2 * Z2) + y1 * Z1 * (x2 * Z2) = (x1 * y2 + y1 * x2) * (Z1 * Z2) := by clear h; grind
  rw [e, ← h]
  clear h e
  grind
theorem rp_c {x1 y1 x2 y2 Z1 Z2 y3 D : Fin n} (h : y3 * (1 - D) = y1 * y2 + x1 * x2) : Z1 * Z2 * (Z1 * Z2 * (Z1 * Z2) + D * (Z1 * Z2 * (Z1 * Z2))) * (x1 * Z1 * (x2 * Z2) + y1 * Z1 * (y2 * Z2)) = y3 * ((Z1 * Z2 * (Z1 * Z2) - D * (Z1 * Z2 * (Z1 * Z2))) * (Z1 * Z2 * (Z1 * Z2) + D * (Z1 * Z2 * (Z1 * Z2)))) := by
  have e : x1 * Z1 * (x2 * Z2) + y1 * Z1 * (y2 * Z2) = (y1 * y2 + x1 * x2) * (Z1 * Z2) := by clear h; grind
  rw [e, ← h]
  clear h e
  grind
/-- The document's sum of two fractions. -/
theorem EdOk.rplus (h : EdOk n d iv) {p q : Fin n × Fin n} (hp : edOn d p) (hq : edOn d q) {X1 Y1 Z1 X2 Y2 Z2 : Fin n} (r1 : Rp p X1 Y1 Z1) (r2 : Rp q X2 Y2 Z2) {b e f g s : Fin n} (hb : b = Z1 * Z2 * (Z1 * Z2)) (he : e = d * (X1 * X2) * (Y1 * Y2)) (hf : f = b - e) (hg : g = b + e) (hs : s = X1 * Y2 + Y1 * X2) :
    Rp (edAdd d iv p q) (Z1 * Z2 * f * s) (Z1 * Z2 * g * (X1 * X2 + Y1 * Y2)) (f * g) := by
  obtain ⟨x1, y1⟩ := p
  obtain ⟨x2, y2⟩ := q
  have ha := h.add_is hp hq
  have fp := h.full_p hp hq
  have fm := h.full_m hp hq
  generalize edAdd d iv (x1, y1) (x2, y2) = t at *
  obtain ⟨x3, y3⟩ := t
  have e1 := r1.x
  have e2 := r1.y
  have e3 := r2.x
  have e4 := r2.y
  have z1 := r1.z
  have z2 := r2.z
  simp only at ha e1 e2 e3 e4
  clear r1 r2 hp hq
  have hee : e = d * x1 * x2 * y1 * y2 * (Z1 * Z2 * (Z1 * Z2)) := by rw [he, e1, e2, e3, e4]; clear ha fp fm he hf hg hs hb; grind
  generalize d * x1 * x2 * y1 * y2 = D at *
  have zz := h.mul_ne z1 z2
  have hff : f = (1 - D) * (Z1 * Z2 * (Z1 * Z2)) := by rw [hf, hb, hee]; clear hf hb hee he hg hs ha; grind
  have hgg : g = (1 + D) * (Z1 * Z2 * (Z1 * Z2)) := by rw [hg, hb, hee]; clear hf hb hee he hg hs ha; grind
  have zf : f ≠ 0 := hff ▸ h.mul_ne fm (h.mul_ne zz zz)
  have zg : g ≠ 0 := hgg ▸ h.mul_ne fp (h.mul_ne zz zz)
  refine ⟨?_, ?_, h.mul_ne zf zg⟩
  · have k := rp_s (Z1 := Z1) (Z2 := Z2) ha.1
    simp only
    rw [hs, hf, hg, hb, hee, e1, e2, e3, e4]
    exact k
  · have k := rp_c (Z1 := Z1) (Z2 := Z2) ha.2
    simp only
    rw [hf, hg, hb, hee, e1, e2, e3, e4]
    exact k
/-- The program's sum. -/
theorem qp_e {x1 y1 x2 y2 Z1 Z2 : Fin n} : (y1 * Z1 + x1 * Z1) * (y2 * Z2 + x2 * Z2) - (y1 * Z1 - x1 * Z1) * (y2 * Z2 - x2 * Z2) = 2 * ((x1 * y2 + y1 * x2) * (Z1 * Z2)) := by grind
theorem qp_h {x1 y1 x2 y2 Z1 Z2 : Fin n} : (y1 * Z1 + x1 * Z1) * (y2 * Z2 + x2 * Z2) + (y1 * Z1 - x1 * Z1) * (y2 * Z2 - x2 * Z2) = 2 * ((y1 * y2 + x1 * x2) * (Z1 * Z2)) := by grind
theorem EdOk.qplus (h : EdOk n d iv) {p q : Fin n × Fin n} (hp : edOn d p) (hq : edOn d q) {X1 Y1 Z1 T1 X2 Y2 Z2 T2 : Fin n} (r1 : Rp p X1 Y1 Z1) (r2 : Rp q X2 Y2 Z2) (t1 : T1 = p.1 * p.2 * Z1) (t2 : T2 = q.1 * q.2 * Z2)
    {a b c c0 z z0 e f g k : Fin n} (ha : a = (Y1 - X1) * (Y2 - X2)) (hb : b = (Y1 + X1) * (Y2 + X2)) (hc0 : c0 = T1 * T2 * d) (hc : c = c0 + c0) (hz0 : z0 = Z1 * Z2) (hz : z = z0 + z0) (he : e = b - a) (hf : f = z - c) (hg : g = z + c) (hk : k = b + a) :
    Rp (edAdd d iv p q) (e * f) (g * k) (f * g) ∧ e * k = (edAdd d iv p q).1 * (edAdd d iv p q).2 * (f * g) := by
  obtain ⟨x1, y1⟩ := p
  obtain ⟨x2, y2⟩ := q
  have hs := h.add_is hp hq
  have fp := h.full_p hp hq
  have fm := h.full_m hp hq
  generalize edAdd d iv (x1, y1) (x2, y2) = t at *
  obtain ⟨x3, y3⟩ := t
  have e1 := r1.x
  have e2 := r1.y
  have e3 := r2.x
  have e4 := r2.y
  have z1 := r1.z
  have z2 := r2.z
  simp only at hs e1 e2 e3 e4 t1 t2 ⊢
  clear r1 r2 hp hq
  have zz := h.mul_ne z1 z2
  rw [e1, e2, e3, e4] at ha hb
  have hE : e = 2 * ((x1 * y2 + y1 * x2) * (Z1 * Z2)) := by rw [he, hb, ha]; exact qp_e
  have hK : k = 2 * ((y1 * y2 + x1 * x2) * (Z1 * Z2)) := by rw [hk, hb, ha]; exact qp_h
  have hC : c = 2 * (d * x1 * x2 * y1 * y2 * (Z1 * Z2)) := by rw [hc, hc0, t1, t2]; clear hs fp fm hE hK ha hb hc hc0; grind
  have hZ : z = 2 * (Z1 * Z2) := by rw [hz, hz0]; clear hs fp fm hE hK hC ha hb hc hc0; grind
  rw [← hs.1] at hE
  rw [← hs.2] at hK
  generalize d * x1 * x2 * y1 * y2 = D at *
  generalize Z1 * Z2 = w at *
  have hF : f = 2 * ((1 - D) * w) := by rw [hf, hZ, hC]; clear hs hE hK hC hZ ha hb hc hc0; grind
  have hG : g = 2 * ((1 + D) * w) := by rw [hg, hZ, hC]; clear hs hE hK hC hZ ha hb hc hc0; grind
  have zf : f ≠ 0 := hF ▸ h.mul_ne h.two (h.mul_ne fm zz)
  have zg : g ≠ 0 := hG ▸ h.mul_ne h.two (h.mul_ne fp zz)
  refine ⟨⟨?_, ?_, h.mul_ne zf zg⟩, ?_⟩
  · simp only
    rw [hE, hF, hG]
    clear hE hK hC hZ hF hG hs ha hb hc hc0 zf zg
    grind
  · simp only
    rw [hK, hF, hG]
    clear hE hK hC hZ hF hG hs ha hb hc hc0 zf zg
    grind
  · rw [hE, hK, hF, hG]
    clear hE hK hC hZ hF hG hs ha hb hc hc0 zf zg
    grind
end
end Go.Proofs.YtgdiokklfihfoaaDoor
