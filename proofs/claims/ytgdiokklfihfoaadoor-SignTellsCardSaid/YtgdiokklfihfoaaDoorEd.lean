/- The curve's addition over a ring without zero divisors: complete, closed, associative. No program is named here. -/
namespace Go.Proofs.YtgdiokklfihfoaaDoor
set_option maxHeartbeats 8000000
set_option maxRecDepth 100000
section
variable {n : Nat} [NeZero n]
theorem ed_x (d x1 y1 x2 y2 x3 y3 : Fin n) : ((x1*y2+y1*x2)*(1-(d*x1*x2*y1*y2))*y3+(y1*y2+x1*x2)*(1+(d*x1*x2*y1*y2))*x3)*(1-(d*x2*x3*y2*y3)*(d*x2*x3*y2*y3)+d*x1*y1*(x2*y3+y2*x3)*(y2*y3+x2*x3))-(x1*(y2*y3+x2*x3)*(1+(d*x2*x3*y2*y3))+y1*(x2*y3+y2*x3)*(1-(d*x2*x3*y2*y3)))*(1-(d*x1*x2*y1*y2)*(d*x1*x2*y1*y2)+d*(x1*y2+y1*x2)*(y1*y2+x1*x2)*x3*y3) = (-d*y1*x2*y2*y2*y2*y2*x3*x3*y3 -d*y1*x2*x2*y2*y2*y2*x3 -d*y1*x2*x2*y2*y2*y2*x3*x3*x3 -d*y1*x2*x2*x2*y2*y2*y3 +d*y1*x2*x2*x2*y2*y2*y3*y3*y3 +d*y1*x2*x2*x2*x2*y2*x3*y3*y3 +d*x1*x2*y2*y2*y2*y2*x3*y3*y3 -d*x1*x2*x2*y2*y2*y2*y3 +d*x1*x2*x2*y2*y2*y2*y3*y3*y3 -d*x1*x2*x2*x2*y2*y2*x3 -d*x1*x2*x2*x2*y2*y2*x3*x3*x3 -d*x1*x2*x2*x2*x2*y2*x3*x3*y3 +d*d*y1*x2*x2*x2*y2*y2*y2*y2*x3*x3*y3 +d*d*y1*x2*x2*x2*x2*y2*y2*y2*x3*y3*y3 -d*d*x1*x2*x2*x2*y2*y2*y2*y2*x3*y3*y3 -d*d*x1*x2*x2*x2*x2*y2*y2*y2*x3*x3*y3)*(y1*y1-x1*x1-1-d*x1*x1*y1*y1) + (y1*y2*x3 -y1*y2*x3*y3*y3 +y1*y2*x3*x3*x3 +y1*x2*y3 -y1*x2*y3*y3*y3 +y1*x2*x3*x3*y3 -y1*y1*y1*y2*x3 +y1*y1*y1*y2*x3*y3*y3 -y1*y1*y1*y2*x3*x3*x3 -y1*y1*y1*x2*y3 +y1*y1*y1*x2*y3*y3*y3 -y1*y1*y1*x2*x3*x3*y3 +x1*y2*y3 -x1*y2*y3*y3*y3 +x1*y2*x3*x3*y3 +x1*x2*x3 -x1*x2*x3*y3*y3 +x1*x2*x3*x3*x3 -x1*y1*y1*y2*y3 +x1*y1*y1*y2*y3*y3*y3 -x1*y1*y1*y2*x3*x3*y3 -x1*y1*y1*x2*x3 +x1*y1*y1*x2*x3*y3*y3 -x1*y1*y1*x2*x3*x3*x3 +x1*x1*y1*y2*x3 -x1*x1*y1*y2*x3*y3*y3 +x1*x1*y1*y2*x3*x3*x3 +x1*x1*y1*x2*y3 -x1*x1*y1*x2*y3*y3*y3 +x1*x1*y1*x2*x3*x3*y3 +x1*x1*x1*y2*y3 -x1*x1*x1*y2*y3*y3*y3 +x1*x1*x1*y2*x3*x3*y3 +x1*x1*x1*x2*x3 -x1*x1*x1*x2*x3*y3*y3 +x1*x1*x1*x2*x3*x3*x3 +d*y1*y2*x3*x3*x3*y3*y3 +d*y1*x2*x3*x3*y3*y3*y3 -d*y1*x2*y2*y2*x3*x3*y3 -d*y1*x2*x2*y2*x3*y3*y3 -d*y1*y1*y1*y2*x3*x3*x3*y3*y3 -d*y1*y1*y1*x2*x3*x3*y3*y3*y3 +d*y1*y1*y1*x2*y2*y2*x3*x3*y3 +d*y1*y1*y1*x2*x2*y2*x3*y3*y3 +d*x1*y2*x3*x3*y3*y3*y3 +d*x1*x2*x3*x3*x3*y3*y3 +d*x1*x2*y2*y2*x3*y3*y3 +d*x1*x2*x2*y2*x3*x3*y3 -d*x1*y1*y1*y2*x3*x3*y3*y3*y3 -d*x1*y1*y1*x2*x3*x3*x3*y3*y3 -d*x1*y1*y1*x2*y2*y2*x3*y3*y3 -d*x1*y1*y1*x2*x2*y2*x3*x3*y3 +d*x1*x1*y1*y2*x3*x3*x3*y3*y3 +d*x1*x1*y1*x2*x3*x3*y3*y3*y3 -d*x1*x1*y1*x2*y2*y2*x3*x3*y3 -d*x1*x1*y1*x2*x2*y2*x3*y3*y3 +d*x1*x1*x1*y2*x3*x3*y3*y3*y3 +d*x1*x1*x1*x2*x3*x3*x3*y3*y3 +d*x1*x1*x1*x2*y2*y2*x3*y3*y3 +d*x1*x1*x1*x2*x2*y2*x3*x3*y3 +d*d*x1*y1*y1*x2*y2*y2*x3*x3*x3*y3*y3 -d*d*x1*y1*y1*x2*x2*y2*x3*x3*y3*y3*y3 -d*d*x1*x1*y1*x2*y2*y2*x3*x3*y3*y3*y3 +d*d*x1*x1*y1*x2*x2*y2*x3*x3*x3*y3*y3)*(y2*y2-x2*x2-1-d*x2*x2*y2*y2) + (-y1*y2*x3 +y1*y2*y2*y2*x3 -y1*x2*y3 +y1*x2*y2*y2*y3 -y1*x2*x2*y2*x3 -y1*x2*x2*x2*y3 +y1*y1*y1*y2*x3 -y1*y1*y1*y2*y2*y2*x3 +y1*y1*y1*x2*y3 -y1*y1*y1*x2*y2*y2*y3 +y1*y1*y1*x2*x2*y2*x3 +y1*y1*y1*x2*x2*x2*y3 -x1*y2*y3 +x1*y2*y2*y2*y3 -x1*x2*x3 +x1*x2*y2*y2*x3 -x1*x2*x2*y2*y3 -x1*x2*x2*x2*x3 +x1*y1*y1*y2*y3 -x1*y1*y1*y2*y2*y2*y3 +x1*y1*y1*x2*x3 -x1*y1*y1*x2*y2*y2*x3 +x1*y1*y1*x2*x2*y2*y3 +x1*y1*y1*x2*x2*x2*x3 -x1*x1*y1*y2*x3 +x1*x1*y1*y2*y2*y2*x3 -x1*x1*y1*x2*y3 +x1*x1*y1*x2*y2*y2*y3 -x1*x1*y1*x2*x2*y2*x3 -x1*x1*y1*x2*x2*x2*y3 -x1*x1*x1*y2*y3 +x1*x1*x1*y2*y2*y2*y3 -x1*x1*x1*x2*x3 +x1*x1*x1*x2*y2*y2*x3 -x1*x1*x1*x2*x2*y2*y3 -x1*x1*x1*x2*x2*x2*x3 -d*x1*y1*y1*x2*y2*y2*x3 +d*x1*y1*y1*x2*x2*y2*y3 +d*x1*x1*y1*x2*y2*y2*y3 -d*x1*x1*y1*x2*x2*y2*x3)*(y3*y3-x3*x3-1-d*x3*x3*y3*y3) := by grind
theorem ed_y (d x1 y1 x2 y2 x3 y3 : Fin n) : ((y1*y2+x1*x2)*(1+(d*x1*x2*y1*y2))*y3+(x1*y2+y1*x2)*(1-(d*x1*x2*y1*y2))*x3)*(1-(d*x2*x3*y2*y3)*(d*x2*x3*y2*y3)-d*x1*y1*(x2*y3+y2*x3)*(y2*y3+x2*x3))-(y1*(y2*y3+x2*x3)*(1+(d*x2*x3*y2*y3))+x1*(x2*y3+y2*x3)*(1-(d*x2*x3*y2*y3)))*(1-(d*x1*x2*y1*y2)*(d*x1*x2*y1*y2)-d*(x1*y2+y1*x2)*(y1*y2+x1*x2)*x3*y3) = (d*y1*x2*y2*y2*y2*y2*x3*y3*y3 -d*y1*x2*x2*y2*y2*y2*y3 +d*y1*x2*x2*y2*y2*y2*y3*y3*y3 -d*y1*x2*x2*x2*y2*y2*x3 -d*y1*x2*x2*x2*y2*y2*x3*x3*x3 -d*y1*x2*x2*x2*x2*y2*x3*x3*y3 -d*x1*x2*y2*y2*y2*y2*x3*x3*y3 -d*x1*x2*x2*y2*y2*y2*x3 -d*x1*x2*x2*y2*y2*y2*x3*x3*x3 -d*x1*x2*x2*x2*y2*y2*y3 +d*x1*x2*x2*x2*y2*y2*y3*y3*y3 +d*x1*x2*x2*x2*x2*y2*x3*y3*y3 -d*d*y1*x2*x2*x2*y2*y2*y2*y2*x3*y3*y3 -d*d*y1*x2*x2*x2*x2*y2*y2*y2*x3*x3*y3 +d*d*x1*x2*x2*x2*y2*y2*y2*y2*x3*x3*y3 +d*d*x1*x2*x2*x2*x2*y2*y2*y2*x3*y3*y3)*(y1*y1-x1*x1-1-d*x1*x1*y1*y1) + (y1*y2*y3 -y1*y2*y3*y3*y3 +y1*y2*x3*x3*y3 +y1*x2*x3 -y1*x2*x3*y3*y3 +y1*x2*x3*x3*x3 -y1*y1*y1*y2*y3 +y1*y1*y1*y2*y3*y3*y3 -y1*y1*y1*y2*x3*x3*y3 -y1*y1*y1*x2*x3 +y1*y1*y1*x2*x3*y3*y3 -y1*y1*y1*x2*x3*x3*x3 +x1*y2*x3 -x1*y2*x3*y3*y3 +x1*y2*x3*x3*x3 +x1*x2*y3 -x1*x2*y3*y3*y3 +x1*x2*x3*x3*y3 -x1*y1*y1*y2*x3 +x1*y1*y1*y2*x3*y3*y3 -x1*y1*y1*y2*x3*x3*x3 -x1*y1*y1*x2*y3 +x1*y1*y1*x2*y3*y3*y3 -x1*y1*y1*x2*x3*x3*y3 +x1*x1*y1*y2*y3 -x1*x1*y1*y2*y3*y3*y3 +x1*x1*y1*y2*x3*x3*y3 +x1*x1*y1*x2*x3 -x1*x1*y1*x2*x3*y3*y3 +x1*x1*y1*x2*x3*x3*x3 +x1*x1*x1*y2*x3 -x1*x1*x1*y2*x3*y3*y3 +x1*x1*x1*y2*x3*x3*x3 +x1*x1*x1*x2*y3 -x1*x1*x1*x2*y3*y3*y3 +x1*x1*x1*x2*x3*x3*y3 +d*y1*y2*x3*x3*y3*y3*y3 +d*y1*x2*x3*x3*x3*y3*y3 +d*y1*x2*y2*y2*x3*y3*y3 +d*y1*x2*x2*y2*x3*x3*y3 -d*y1*y1*y1*y2*x3*x3*y3*y3*y3 -d*y1*y1*y1*x2*x3*x3*x3*y3*y3 -d*y1*y1*y1*x2*y2*y2*x3*y3*y3 -d*y1*y1*y1*x2*x2*y2*x3*x3*y3 +d*x1*y2*x3*x3*x3*y3*y3 +d*x1*x2*x3*x3*y3*y3*y3 -d*x1*x2*y2*y2*x3*x3*y3 -d*x1*x2*x2*y2*x3*y3*y3 -d*x1*y1*y1*y2*x3*x3*x3*y3*y3 -d*x1*y1*y1*x2*x3*x3*y3*y3*y3 +d*x1*y1*y1*x2*y2*y2*x3*x3*y3 +d*x1*y1*y1*x2*x2*y2*x3*y3*y3 +d*x1*x1*y1*y2*x3*x3*y3*y3*y3 +d*x1*x1*y1*x2*x3*x3*x3*y3*y3 +d*x1*x1*y1*x2*y2*y2*x3*y3*y3 +d*x1*x1*y1*x2*x2*y2*x3*x3*y3 +d*x1*x1*x1*y2*x3*x3*x3*y3*y3 +d*x1*x1*x1*x2*x3*x3*y3*y3*y3 -d*x1*x1*x1*x2*y2*y2*x3*x3*y3 -d*x1*x1*x1*x2*x2*y2*x3*y3*y3 +d*d*x1*y1*y1*x2*y2*y2*x3*x3*y3*y3*y3 -d*d*x1*y1*y1*x2*x2*y2*x3*x3*x3*y3*y3 -d*d*x1*x1*y1*x2*y2*y2*x3*x3*x3*y3*y3 +d*d*x1*x1*y1*x2*x2*y2*x3*x3*y3*y3*y3)*(y2*y2-x2*x2-1-d*x2*x2*y2*y2) + (-y1*y2*y3 +y1*y2*y2*y2*y3 -y1*x2*x3 +y1*x2*y2*y2*x3 -y1*x2*x2*y2*y3 -y1*x2*x2*x2*x3 +y1*y1*y1*y2*y3 -y1*y1*y1*y2*y2*y2*y3 +y1*y1*y1*x2*x3 -y1*y1*y1*x2*y2*y2*x3 +y1*y1*y1*x2*x2*y2*y3 +y1*y1*y1*x2*x2*x2*x3 -x1*y2*x3 +x1*y2*y2*y2*x3 -x1*x2*y3 +x1*x2*y2*y2*y3 -x1*x2*x2*y2*x3 -x1*x2*x2*x2*y3 +x1*y1*y1*y2*x3 -x1*y1*y1*y2*y2*y2*x3 +x1*y1*y1*x2*y3 -x1*y1*y1*x2*y2*y2*y3 +x1*y1*y1*x2*x2*y2*x3 +x1*y1*y1*x2*x2*x2*y3 -x1*x1*y1*y2*y3 +x1*x1*y1*y2*y2*y2*y3 -x1*x1*y1*x2*x3 +x1*x1*y1*x2*y2*y2*x3 -x1*x1*y1*x2*x2*y2*y3 -x1*x1*y1*x2*x2*x2*x3 -x1*x1*x1*y2*x3 +x1*x1*x1*y2*y2*y2*x3 -x1*x1*x1*x2*y3 +x1*x1*x1*x2*y2*y2*y3 -x1*x1*x1*x2*x2*y2*x3 -x1*x1*x1*x2*x2*x2*y3 -d*x1*y1*y1*x2*y2*y2*y3 +d*x1*y1*y1*x2*x2*y2*x3 +d*x1*x1*y1*x2*y2*y2*x3 -d*x1*x1*y1*x2*x2*y2*y3)*(y3*y3-x3*x3-1-d*x3*x3*y3*y3) := by grind
theorem ed_on (d x1 y1 x2 y2 : Fin n) : ((y1*y2+x1*x2)*(y1*y2+x1*x2)*(1+(d*x1*x2*y1*y2))*(1+(d*x1*x2*y1*y2))-(x1*y2+y1*x2)*(x1*y2+y1*x2)*(1-(d*x1*x2*y1*y2))*(1-(d*x1*x2*y1*y2))-(1-(d*x1*x2*y1*y2)*(d*x1*x2*y1*y2))*(1-(d*x1*x2*y1*y2)*(d*x1*x2*y1*y2))-d*(x1*y2+y1*x2)*(x1*y2+y1*x2)*(y1*y2+x1*x2)*(y1*y2+x1*x2)) = (y2*y2*y2*y2 -4*x2*x2*y2*y2 +2*x2*x2*y2*y2*y2*y2 +x2*x2*x2*x2 -2*x2*x2*x2*x2*y2*y2 -2*d*x2*x2*y2*y2 -2*d*x2*x2*x2*x2*y2*y2*y2*y2 -d*y1*y1*x2*x2*y2*y2*y2*y2 +d*y1*y1*x2*x2*x2*x2*y2*y2 +d*x1*x1*x2*x2*y2*y2*y2*y2 -d*x1*x1*x2*x2*x2*x2*y2*y2 -d*d*x2*x2*x2*x2*y2*y2*y2*y2 +d*d*y1*y1*x2*x2*x2*x2*y2*y2*y2*y2 -d*d*x1*x1*x2*x2*x2*x2*y2*y2*y2*y2 +d*d*d*x1*x1*y1*y1*x2*x2*x2*x2*y2*y2*y2*y2)*(y1*y1-x1*x1-1-d*x1*x1*y1*y1) + (1 +y2*y2 -x2*x2 +2*x2*x2*y2*y2 -y1*y1*y2*y2 +y1*y1*x2*x2 -2*y1*y1*x2*x2*y2*y2 +x1*x1*y2*y2 -x1*x1*x2*x2 +2*x1*x1*x2*x2*y2*y2 +d*x2*x2*y2*y2 -2*d*y1*y1*x2*x2*y2*y2 +d*y1*y1*y1*y1*x2*x2*y2*y2 +2*d*x1*x1*x2*x2*y2*y2 +d*x1*x1*x1*x1*x2*x2*y2*y2)*(y2*y2-x2*x2-1-d*x2*x2*y2*y2) := by grind
/-- What the addition needs of the numbers: no divisors of nothing, one over each, a root of -1, d no square. -/
structure EdOk (n : Nat) [NeZero n] (d : Fin n) (iv : Fin n → Fin n) : Prop where
  dom : ∀ a b : Fin n, a * b = 0 → a = 0 ∨ b = 0
  inv : ∀ a : Fin n, a ≠ 0 → a * iv a = 1
  im : ∃ i : Fin n, i * i = -1
  sq : ∀ u v : Fin n, d * u * u = v * v → u = 0
  two : (2 : Fin n) ≠ 0
  one : (1 : Fin n) ≠ 0
def edOn (d : Fin n) (p : Fin n × Fin n) : Prop := p.2 * p.2 - p.1 * p.1 = 1 + d * p.1 * p.1 * p.2 * p.2
def edAdd (d : Fin n) (iv : Fin n → Fin n) (p q : Fin n × Fin n) : Fin n × Fin n :=
  ((p.1 * q.2 + p.2 * q.1) * iv (1 + d * p.1 * q.1 * p.2 * q.2), (p.2 * q.2 + p.1 * q.1) * iv (1 - d * p.1 * q.1 * p.2 * q.2))
variable {d : Fin n} {iv : Fin n → Fin n}
theorem EdOk.cancel (h : EdOk n d iv) {a b c : Fin n} (hc : c ≠ 0) (e : a * c = b * c) : a = b := by
  have h1 : (a - b) * c = 0 := by grind
  rcases h.dom _ _ h1 with h2 | h2
  · grind
  · exact absurd h2 hc
theorem EdOk.mul_ne (h : EdOk n d iv) {a b : Fin n} (ha : a ≠ 0) (hb : b ≠ 0) : a * b ≠ 0 := fun e => by
  rcases h.dom _ _ e with h2 | h2
  · exact ha h2
  · exact hb h2
/-- Both denominators are not nothing. -/
theorem EdOk.full (h : EdOk n d iv) {x1 y1 x2 y2 : Fin n} (h1 : edOn d (x1, y1)) (h2 : edOn d (x2, y2)) : 1 - (d * x1 * x2 * y1 * y2) * (d * x1 * x2 * y1 * y2) ≠ 0 := by
  intro hD
  unfold edOn at h1 h2
  simp only at h1 h2
  obtain ⟨i, hi⟩ := h.im
  have hD2 : (d * x1 * x2 * y1 * y2) * (d * x1 * x2 * y1 * y2) = 1 := by grind
  have key : ∀ j : Fin n, j * j = -1 → d * (x1 * y1 * (y2 + j * x2)) * (x1 * y1 * (y2 + j * x2)) = (y1 + j * (d * x1 * x2 * y1 * y2) * x1) * (y1 + j * (d * x1 * x2 * y1 * y2) * x1) := by
    intro j hj
    have e1 : d * (x1 * y1 * (y2 + j * x2)) * (x1 * y1 * (y2 + j * x2)) = d * x1 * x1 * y1 * y1 * (y2 * y2 + (j * j) * (x2 * x2)) + 2 * j * (d * x1 * x2 * y1 * y2) * x1 * y1 := by grind
    have e2 : (y1 + j * (d * x1 * x2 * y1 * y2) * x1) * (y1 + j * (d * x1 * x2 * y1 * y2) * x1) = y1 * y1 + (j * j) * ((d * x1 * x2 * y1 * y2) * (d * x1 * x2 * y1 * y2)) * (x1 * x1) + 2 * j * (d * x1 * x2 * y1 * y2) * x1 * y1 := by grind
    rw [e1, e2, hj, hD2]
    have e3 : y2 * y2 + -1 * (x2 * x2) = 1 + d * x2 * x2 * y2 * y2 := by grind
    rw [e3]
    have e4 : d * x1 * x1 * y1 * y1 * (1 + d * x2 * x2 * y2 * y2) = d * x1 * x1 * y1 * y1 + (d * x1 * x2 * y1 * y2) * (d * x1 * x2 * y1 * y2) := by grind
    rw [e4, hD2]
    grind
  have k1 := h.sq _ _ (key i hi)
  have k2 := h.sq _ _ (key (-i) (by grind))
  have hxy : x1 * y1 ≠ 0 := by
    intro h0
    have : (d * x1 * x2 * y1 * y2) = d * (x1 * y1) * x2 * y2 := by grind
    rw [this, h0] at hD2
    exact h.one (by grind)
  have k3 : y2 + i * x2 = 0 := (h.dom _ _ k1).resolve_left hxy
  have k4 : y2 + -i * x2 = 0 := (h.dom _ _ k2).resolve_left hxy
  have k5 : 2 * y2 = 0 := by grind
  have k6 : y2 = 0 := (h.dom _ _ k5).resolve_left h.two
  have k7 : 2 * x2 = 0 := by
    have : i * (i * x2) = 0 := by grind
    grind
  have k8 : x2 = 0 := (h.dom _ _ k7).resolve_left h.two
  rw [k6, k8] at h2
  exact h.one (by grind)
theorem EdOk.full_p (h : EdOk n d iv) {x1 y1 x2 y2 : Fin n} (h1 : edOn d (x1, y1)) (h2 : edOn d (x2, y2)) : 1 + d * x1 * x2 * y1 * y2 ≠ 0 := fun e => h.full h1 h2 (by
  have : 1 - (d * x1 * x2 * y1 * y2) * (d * x1 * x2 * y1 * y2) = (1 + d * x1 * x2 * y1 * y2) * (1 - d * x1 * x2 * y1 * y2) := by grind
  rw [this, e]
  grind)
theorem EdOk.full_m (h : EdOk n d iv) {x1 y1 x2 y2 : Fin n} (h1 : edOn d (x1, y1)) (h2 : edOn d (x2, y2)) : 1 - d * x1 * x2 * y1 * y2 ≠ 0 := fun e => h.full h1 h2 (by
  have : 1 - (d * x1 * x2 * y1 * y2) * (d * x1 * x2 * y1 * y2) = (1 + d * x1 * x2 * y1 * y2) * (1 - d * x1 * x2 * y1 * y2) := by grind
  rw [this, e]
  grind)
/-- The sum's places. -/
theorem EdOk.add_is (h : EdOk n d iv) {x1 y1 x2 y2 : Fin n} (h1 : edOn d (x1, y1)) (h2 : edOn d (x2, y2)) :
    (edAdd d iv (x1, y1) (x2, y2)).1 * (1 + d * x1 * x2 * y1 * y2) = x1 * y2 + y1 * x2 ∧ (edAdd d iv (x1, y1) (x2, y2)).2 * (1 - d * x1 * x2 * y1 * y2) = y1 * y2 + x1 * x2 := by
  have i1 := h.inv _ (h.full_p h1 h2)
  have i2 := h.inv _ (h.full_m h1 h2)
  unfold edAdd
  simp only
  generalize iv (1 + d * x1 * x2 * y1 * y2) = u at *
  generalize iv (1 - d * x1 * x2 * y1 * y2) = v at *
  constructor
  · rw [show (x1 * y2 + y1 * x2) * u * (1 + d * x1 * x2 * y1 * y2) = (x1 * y2 + y1 * x2) * ((1 + d * x1 * x2 * y1 * y2) * u) by grind, i1]
    grind
  · rw [show (y1 * y2 + x1 * x2) * v * (1 - d * x1 * x2 * y1 * y2) = (y1 * y2 + x1 * x2) * ((1 - d * x1 * x2 * y1 * y2) * v) by grind, i2]
    grind
theorem ed_zero {x y : Fin n} (h : y * y - x * x = 1 + d * x * x * y * y) : y*y-x*x-1-d*x*x*y*y = 0 := by grind
theorem ed_on2 {D S C : Fin n} (x3 y3 : Fin n) (h1 : x3 * (1 + D) = S) (h2 : y3 * (1 - D) = C) (h : C*C*(1+D)*(1+D)-S*S*(1-D)*(1-D)-(1-D*D)*(1-D*D)-d*S*S*C*C = 0) : (y3 * y3 - x3 * x3) * ((1 - D * D) * (1 - D * D)) = (1 + d * x3 * x3 * y3 * y3) * ((1 - D * D) * (1 - D * D)) := by
  rw [← h1, ← h2] at h
  clear h1 h2
  grind
theorem EdOk.add_on (h : EdOk n d iv) {p q : Fin n × Fin n} (h1 : edOn d p) (h2 : edOn d q) : edOn d (edAdd d iv p q) := by
  obtain ⟨x1, y1⟩ := p
  obtain ⟨x2, y2⟩ := q
  have hs := h.add_is h1 h2
  have hf := h.full h1 h2
  have hid := ed_on d x1 y1 x2 y2
  unfold edOn at h1 h2 ⊢
  simp only at h1 h2
  generalize edAdd d iv (x1, y1) (x2, y2) = r at *
  obtain ⟨x3, y3⟩ := r
  simp only at hs ⊢
  rw [ed_zero h1, ed_zero h2] at hid
  simp only [Fin.mul_zero, Fin.add_zero] at hid
  generalize d * x1 * x2 * y1 * y2 = D at *
  exact h.cancel (c := (1 - D * D) * (1 - D * D)) (h.mul_ne hf hf) (ed_on2 x3 y3 hs.1 hs.2 hid)
theorem ed_den {D S C xa ya x3 y3 : Fin n} (h1 : xa * (1 + D) = S) (h2 : ya * (1 - D) = C) : 1 - D * D + d * S * C * x3 * y3 = (1 - D * D) * (1 + d * xa * x3 * ya * y3) ∧ 1 - D * D - d * S * C * x3 * y3 = (1 - D * D) * (1 - d * xa * x3 * ya * y3) := by
  rw [← h1, ← h2]
  clear h1 h2
  constructor <;> grind
theorem ed_den2 {D S C xa ya x3 y3 : Fin n} (h1 : xa * (1 + D) = S) (h2 : ya * (1 - D) = C) : 1 - D * D + d * x3 * y3 * S * C = (1 - D * D) * (1 + d * x3 * xa * y3 * ya) ∧ 1 - D * D - d * x3 * y3 * S * C = (1 - D * D) * (1 - d * x3 * xa * y3 * ya) := by
  rw [← h1, ← h2]
  clear h1 h2
  constructor <;> grind
theorem ed_num {D S C xa ya x3 y3 xl Q : Fin n} (h1 : xa * (1 + D) = S) (h2 : ya * (1 - D) = C) (h3 : xl * Q = xa * y3 + ya * x3) : S * (1 - D) * y3 + C * (1 + D) * x3 = xl * ((1 - D * D) * Q) := by
  rw [← h1, ← h2, show xl * ((1 - D * D) * Q) = (1 - D * D) * (xl * Q) by clear h1 h2 h3; grind, h3]
  clear h1 h2 h3
  grind
theorem ed_numy {D S C xa ya x3 y3 yl Q : Fin n} (h1 : xa * (1 + D) = S) (h2 : ya * (1 - D) = C) (h3 : yl * Q = ya * y3 + xa * x3) : C * (1 + D) * y3 + S * (1 - D) * x3 = yl * ((1 - D * D) * Q) := by
  rw [← h1, ← h2, show yl * ((1 - D * D) * Q) = (1 - D * D) * (yl * Q) by clear h1 h2 h3; grind, h3]
  clear h1 h2 h3
  grind
theorem ed_num2 {D S C xa ya x3 y3 xl Q : Fin n} (h1 : xa * (1 + D) = S) (h2 : ya * (1 - D) = C) (h3 : xl * Q = x3 * ya + y3 * xa) : x3 * C * (1 + D) + y3 * S * (1 - D) = xl * ((1 - D * D) * Q) := by
  rw [← h1, ← h2, show xl * ((1 - D * D) * Q) = (1 - D * D) * (xl * Q) by clear h1 h2 h3; grind, h3]
  clear h1 h2 h3
  grind
theorem ed_num2y {D S C xa ya x3 y3 yl Q : Fin n} (h1 : xa * (1 + D) = S) (h2 : ya * (1 - D) = C) (h3 : yl * Q = y3 * ya + x3 * xa) : y3 * C * (1 + D) + x3 * S * (1 - D) = yl * ((1 - D * D) * Q) := by
  rw [← h1, ← h2, show yl * ((1 - D * D) * Q) = (1 - D * D) * (yl * Q) by clear h1 h2 h3; grind, h3]
  clear h1 h2 h3
  grind
theorem ed_last {xl xr A B : Fin n} (h : xl * A * B - xr * B * A = 0) : xl * (A * B) = xr * (A * B) := by grind
theorem EdOk.add_assoc (h : EdOk n d iv) {p q r : Fin n × Fin n} (h1 : edOn d p) (h2 : edOn d q) (h3 : edOn d r) : edAdd d iv (edAdd d iv p q) r = edAdd d iv p (edAdd d iv q r) := by
  have oa := h.add_on h1 h2
  have ob := h.add_on h2 h3
  obtain ⟨x1, y1⟩ := p
  obtain ⟨x2, y2⟩ := q
  obtain ⟨x3, y3⟩ := r
  have ha := h.add_is h1 h2
  have hb := h.add_is h2 h3
  have fa := h.full h1 h2
  have fb := h.full h2 h3
  have ix := ed_x d x1 y1 x2 y2 x3 y3
  have iy := ed_y d x1 y1 x2 y2 x3 y3
  rw [ed_zero (x := x1) (y := y1) h1, ed_zero (x := x2) (y := y2) h2, ed_zero (x := x3) (y := y3) h3] at ix iy
  simp only [Fin.mul_zero, Fin.add_zero] at ix iy
  obtain ⟨⟨xa, ya⟩, ea⟩ : ∃ s, edAdd d iv (x1, y1) (x2, y2) = s := ⟨_, rfl⟩
  obtain ⟨⟨xb, yb⟩, eb⟩ : ∃ s, edAdd d iv (x2, y2) (x3, y3) = s := ⟨_, rfl⟩
  rw [ea] at oa ha ⊢
  rw [eb] at ob hb ⊢
  simp only at ha hb
  have hl := h.add_is oa h3
  have hr := h.add_is h1 ob
  have flp := h.full_p oa h3
  have flm := h.full_m oa h3
  have frp := h.full_p h1 ob
  have frm := h.full_m h1 ob
  obtain ⟨⟨xl, yl⟩, el⟩ : ∃ s, edAdd d iv (xa, ya) (x3, y3) = s := ⟨_, rfl⟩
  obtain ⟨⟨xr, yr⟩, er⟩ : ∃ s, edAdd d iv (x1, y1) (xb, yb) = s := ⟨_, rfl⟩
  rw [el] at hl ⊢
  rw [er] at hr ⊢
  simp only at hl hr
  clear ea eb el er oa ob h1 h2 h3
  obtain ⟨S, hS⟩ : ∃ s, x1 * y2 + y1 * x2 = s := ⟨_, rfl⟩
  obtain ⟨C, hC⟩ : ∃ s, y1 * y2 + x1 * x2 = s := ⟨_, rfl⟩
  obtain ⟨S2, hS2⟩ : ∃ s, x2 * y3 + y2 * x3 = s := ⟨_, rfl⟩
  obtain ⟨C2, hC2⟩ : ∃ s, y2 * y3 + x2 * x3 = s := ⟨_, rfl⟩
  rw [hS, hC, hS2, hC2] at ix iy
  rw [hS, hC] at ha
  rw [hS2, hC2] at hb
  obtain ⟨D, hD⟩ : ∃ s, d * x1 * x2 * y1 * y2 = s := ⟨_, rfl⟩
  obtain ⟨E, hE⟩ : ∃ s, d * x2 * x3 * y2 * y3 = s := ⟨_, rfl⟩
  rw [hD] at ha fa
  rw [hE] at hb fb
  rw [hD, hE] at ix iy
  clear hS hC hS2 hC2 hD hE
  have dl := (ed_den (d := d) (x3 := x3) (y3 := y3) ha.1 ha.2).1
  have dl2 := (ed_den (d := d) (x3 := x3) (y3 := y3) ha.1 ha.2).2
  have dr := (ed_den2 (d := d) (x3 := x1) (y3 := y1) hb.1 hb.2).1
  have dr2 := (ed_den2 (d := d) (x3 := x1) (y3 := y1) hb.1 hb.2).2
  have nl := ed_num ha.1 ha.2 hl.1
  have nl2 := ed_numy ha.1 ha.2 hl.2
  have nr := ed_num2 hb.1 hb.2 hr.1
  have nr2 := ed_num2y hb.1 hb.2 hr.2
  rw [← dl] at nl
  rw [← dl2] at nl2
  rw [← dr] at nr
  rw [← dr2] at nr2
  rw [nl, nr] at ix
  rw [nl2, nr2] at iy
  have zl : 1 - D * D + d * S * C * x3 * y3 ≠ 0 := dl ▸ h.mul_ne fa flp
  have zr : 1 - E * E + d * x1 * y1 * S2 * C2 ≠ 0 := dr ▸ h.mul_ne fb frp
  have zl2 : 1 - D * D - d * S * C * x3 * y3 ≠ 0 := dl2 ▸ h.mul_ne fa flm
  have zr2 : 1 - E * E - d * x1 * y1 * S2 * C2 ≠ 0 := dr2 ▸ h.mul_ne fb frm
  have ex : xl = xr := h.cancel (h.mul_ne zl zr) (ed_last ix)
  have ey : yl = yr := h.cancel (h.mul_ne zl2 zr2) (ed_last iy)
  rw [ex, ey]
end
end Go.Proofs.YtgdiokklfihfoaaDoor
