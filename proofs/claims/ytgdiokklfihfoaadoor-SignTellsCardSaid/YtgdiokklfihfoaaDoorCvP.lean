/- The plain law of CurveTells: what package curve makes of two points, and what the document makes of them, is one thing. -/
import Derived.Test.YtgdiokklfihfoaaDoorCv4
namespace Go.Proofs.YtgdiokklfihfoaaDoor
/-- Congruence modulo 2^255 - 19. -/
def Cg (a b : Int) : Prop := ∃ k, a = b + (fP : Int) * k
section
variable {a b c d : Int} {m n : Nat}
theorem Cg.refl (a : Int) : Cg a a := ⟨0, by rw [Int.mul_zero, Int.add_zero]⟩
theorem Cg.symm (h : Cg a b) : Cg b a := by obtain ⟨k, hk⟩ := h; exact ⟨-k, by grind⟩
theorem Cg.trans (h : Cg a b) (h2 : Cg b c) : Cg a c := by obtain ⟨k, hk⟩ := h; obtain ⟨l, hl⟩ := h2; exact ⟨k + l, by grind⟩
theorem Cg.add (h : Cg a b) (h2 : Cg c d) : Cg (a + c) (b + d) := by obtain ⟨k, hk⟩ := h; obtain ⟨l, hl⟩ := h2; exact ⟨k + l, by grind⟩
theorem Cg.sub (h : Cg a b) (h2 : Cg c d) : Cg (a - c) (b - d) := by obtain ⟨k, hk⟩ := h; obtain ⟨l, hl⟩ := h2; exact ⟨k - l, by grind⟩
theorem Cg.mul (h : Cg a b) (h2 : Cg c d) : Cg (a * c) (b * d) := by obtain ⟨k, hk⟩ := h; obtain ⟨l, hl⟩ := h2; exact ⟨b * l + k * d + (fP : Int) * k * l, by grind⟩
theorem Cg.mod (n : Nat) : Cg ((n % fP : Nat) : Int) n := by
  have h := Nat.mod_add_div n fP
  refine ⟨-((n / fP : Nat) : Int), ?_⟩
  have h2 : ((n % fP : Nat) : Int) + (fP : Int) * ((n / fP : Nat) : Int) = (n : Int) := by rw [← Int.natCast_mul, ← Int.natCast_add, h]
  grind
theorem Cg.mulM (h : Cg m a) (h2 : Cg n b) : Cg ((m * n % fP : Nat) : Int) (a * b) := (Cg.mod _).trans (by rw [Int.natCast_mul]; exact h.mul h2)
theorem Cg.addM (h : Cg m a) (h2 : Cg n b) : Cg (((m + n) % fP : Nat) : Int) (a + b) := (Cg.mod _).trans (by rw [Int.natCast_add]; exact h.add h2)
theorem Cg.difM (h : Cg m a) (h2 : Cg n b) : Cg ((difP m n : Nat) : Int) (a - b) := by
  unfold difP
  refine (Cg.mod _).trans ?_
  have h3 := lt_P (a := n)
  rw [Int.natCast_add, Int.natCast_sub (Nat.le_of_lt h3)]
  have h4 := ((Cg.mod m).trans h).sub ((Cg.mod n).trans h2)
  obtain ⟨k, hk⟩ := h4
  exact ⟨k + 1, by grind⟩
/-- The document's difference. -/
def lessM (a b : Nat) : Nat := (a + 4 * fP - b) % fP
theorem Cg.lessM (h : Cg m a) (h2 : Cg n b) (hn : n < fP) : Cg ((lessM m n : Nat) : Int) (a - b) := by
  unfold Proofs.YtgdiokklfihfoaaDoor.lessM
  refine (Cg.mod _).trans ?_
  rw [Int.natCast_sub (by omega), Int.natCast_add, Int.natCast_mul]
  obtain ⟨k, hk⟩ := h.sub h2
  exact ⟨k + 4, by grind⟩
theorem Cg.eq (h : Cg m n) (hm : m < fP) (hn : n < fP) : m = n := by
  obtain ⟨k, hk⟩ := h
  generalize fP = P at *
  have h1 : k < 1 := by
    rcases Int.lt_or_le k 1 with h | h
    · exact h
    · have := Int.mul_le_mul_of_nonneg_left h (show (0 : Int) ≤ (P : Int) by omega)
      omega
  have h2 : -1 < k := by
    rcases Int.lt_or_le (-1) k with h | h
    · exact h
    · have := Int.mul_le_mul_of_nonneg_left h (show (0 : Int) ≤ (P : Int) by omega)
      omega
  have h3 : k = 0 := by omega
  subst h3
  omega
theorem Cg.of_eq (h : m % fP = n % fP) : Cg m n := (Cg.mod m).symm.trans (h ▸ Cg.mod n)
end

/-! Powers, by squaring. -/
def pwf (a : Nat) : Nat → Nat → Nat
  | 0, _ => 1
  | f + 1, n => if n % 2 = 0 then (pwf a f (n / 2)) ^ 2 % fP else ((pwf a f (n / 2)) ^ 2 % fP) * a % fP
theorem pwf_is (a : Nat) : ∀ f n, n < 2 ^ f → pwf a f n % fP = a ^ n % fP
  | 0, n, h => by
    have : n = 0 := by rw [Nat.pow_zero] at h; omega
    subst this; rfl
  | f + 1, n, h => by
    have ih := pwf_is a f (n / 2) (by rw [Nat.pow_succ] at h; omega)
    unfold pwf
    split
    · rename_i h0
      rw [Nat.mod_mod, Nat.pow_mod, ih, ← Nat.pow_mod, ← Nat.pow_mul, show n / 2 * 2 = n by omega]
    · rename_i h0
      rw [Nat.mod_mod, Nat.mod_mul_mod, Nat.mul_mod, Nat.pow_mod, ih, ← Nat.pow_mod, ← Nat.mul_mod, ← Nat.pow_mul, ← Nat.pow_succ, show (n / 2 * 2).succ = n by omega]
theorem four_pow : 4 ^ (fP - 1) % fP = 1 := by
  have h : fP - 1 < 2 ^ 256 := Nat.lt_of_le_of_lt (Nat.sub_le _ _) P_lt
  rw [← pwf_is 4 256 _ h]
  decide +kernel
/-- Four times as much above and below is the same. -/
theorem over_four {X X4 Z Z4 : Nat} (hX : Cg X4 (4 * (X : Int))) (hZ : Cg Z4 (4 * (Z : Int))) : X4 * invP Z4 % fP = X * invP Z % fP := by
  refine Cg.eq ?_ lt_P lt_P
  refine (Cg.mod _).trans (Cg.trans ?_ (Cg.mod _).symm)
  have hi : ∀ n m : Nat, Cg m n → ∀ k : Nat, Cg ((m ^ k : Nat) : Int) ((n ^ k : Nat) : Int) := fun n m h k => by
    induction k with
    | zero => exact Cg.refl _
    | succ k ih => rw [Nat.pow_succ, Nat.pow_succ, Int.natCast_mul, Int.natCast_mul]; exact ih.mul h
  have hZ' : Cg Z4 ((4 * Z : Nat) : Int) := by rw [Int.natCast_mul]; exact hZ
  have h1 : Cg (invP Z4) (((4 ^ (fP - 2) : Nat) : Int) * (invP Z : Int)) := by
    unfold invP
    refine (Cg.mod _).trans ((hi _ _ hZ' (fP - 2)).trans ?_)
    rw [Nat.mul_pow, Int.natCast_mul]
    exact (Cg.refl _).mul (Cg.mod _).symm
  have h2 : Cg (4 * ((4 ^ (fP - 2) : Nat) : Int)) 1 := by
    have h3 : 4 * 4 ^ (fP - 2) = 4 ^ (fP - 1) := by
      rw [Nat.mul_comm, ← Nat.pow_succ]
      congr 1
    rw [show (4 : Int) * ((4 ^ (fP - 2) : Nat) : Int) = ((4 * 4 ^ (fP - 2) : Nat) : Int) by rw [Int.natCast_mul]; rfl, h3]
    refine (Cg.mod _).symm.trans ?_
    rw [four_pow]
    exact Cg.refl _
  rw [Int.natCast_mul, Int.natCast_mul]
  refine (hX.mul h1).trans ?_
  generalize ((4 ^ (fP - 2) : Nat) : Int) = q at *
  have h4 := h2.mul (Cg.refl ((X : Int) * (invP Z : Int)))
  rw [Int.one_mul] at h4
  refine Cg.trans ?_ h4
  rw [show 4 * (X : Int) * (q * (invP Z : Int)) = 4 * q * ((X : Int) * (invP Z : Int)) by grind]
  exact Cg.refl _

/-! The document's side. -/
/-- Is it a point of the curve? -/
def onR (x y : Nat) : Bool := decide (x % fP = x) && decide (y % fP = y) && decide ((y % fP) * (y % fP) % fP = ((1 + (x % fP) * (x % fP) % fP) % fP + (dN * ((x % fP) * (x % fP) % fP) % fP) * ((y % fP) * (y % fP) % fP) % fP) % fP)
theorem on_same (x y : Nat) : onR x y = onB x y := by
  unfold onR onB
  by_cases hx : x % fP = x
  · by_cases hy : y % fP = y
    · rw [hx, hy]
      simp only [decide_true, Bool.true_and]
      refine decide_eq_decide.2 ?_
      have e1 := Cg.mulM (Cg.refl x) (Cg.refl x)
      have e2 := Cg.mulM (Cg.refl y) (Cg.refl y)
      have l1 : x * x % fP < fP := lt_P
      have l2 : y * y % fP < fP := lt_P
      generalize x * x % fP = xx at *
      generalize y * y % fP = yy at *
      generalize dN = dd at *
      have p1 := Cg.difM (Cg.refl yy) (Cg.refl xx)
      have p2 := Cg.addM (m := 1) (Cg.refl 1) (Cg.mulM (Cg.refl dd) (Cg.mulM (Cg.refl xx) (Cg.refl yy)))
      have p3 := Cg.addM (Cg.addM (m := 1) (Cg.refl 1) (Cg.refl xx)) (Cg.mulM (Cg.mulM (Cg.refl dd) (Cg.refl xx)) (Cg.refl yy))
      constructor
      · intro h
        refine Cg.eq (p1.trans (Cg.trans ?_ p2.symm)) lt_P lt_P
        rw [← h] at p3
        obtain ⟨k, hk⟩ := p3
        exact ⟨k, by grind⟩
      · intro h
        refine Cg.eq (Cg.trans ?_ p3.symm) l2 lt_P
        rw [h] at p1
        obtain ⟨k, hk⟩ := p1.symm.trans p2
        exact ⟨k, by grind⟩
    · rw [decide_eq_false hy, decide_eq_false (p := y = y % fP) (fun h => hy h.symm), Bool.and_false, Bool.false_and, Bool.and_false, Bool.false_and]
  · rw [decide_eq_false hx, decide_eq_false (p := x = x % fP) (fun h => hx h.symm), Bool.false_and, Bool.false_and, Bool.false_and, Bool.false_and]
theorem on_lt {x y : Nat} (h : onB x y = true) : x < fP ∧ y < fP := by
  unfold onB at h
  rw [Bool.and_eq_true, Bool.and_eq_true, decide_eq_true_eq, decide_eq_true_eq] at h
  exact ⟨by rw [h.1.1]; exact lt_P, by rw [h.1.2]; exact lt_P⟩
/-- What the document makes of two fractions. -/
def rplus (X1 Y1 Z1 X2 Y2 Z2 : Nat) : Nat × Nat × Nat :=
  let a := Z1 * Z2 % fP
  let c := X1 * X2 % fP
  let d := Y1 * Y2 % fP
  let b := a * a % fP
  let e := (dN * c % fP) * d % fP
  let f := lessM b e
  let g := (b + e) % fP
  let s := (X1 * Y2 % fP + Y1 * X2 % fP) % fP
  ((a * f % fP) * s % fP, (a * g % fP) * ((c + d) % fP) % fP, f * g % fP)
def rpoint (X Y Z : Nat) : Nat × Nat := (X * invP Z % fP, Y * invP Z % fP)
theorem add_same {x1 y1 x2 y2 : Nat} (hx1 : x1 < fP) (hy1 : y1 < fP) (hx2 : x2 < fP) (hy2 : y2 < fP) :
    addPt x1 y1 x2 y2 = rpoint (rplus (x1 % fP) (y1 % fP) 1 (x2 % fP) (y2 % fP) 1).1 (rplus (x1 % fP) (y1 % fP) 1 (x2 % fP) (y2 % fP) 1).2.1 (rplus (x1 % fP) (y1 % fP) 1 (x2 % fP) (y2 % fP) 1).2.2 := by
  rw [Nat.mod_eq_of_lt hx1, Nat.mod_eq_of_lt hy1, Nat.mod_eq_of_lt hx2, Nat.mod_eq_of_lt hy2]
  -- the program's
  have pa := Cg.mulM (Cg.difM (Cg.refl y1) (Cg.refl x1)) (Cg.difM (Cg.refl y2) (Cg.refl x2))
  have pb := Cg.mulM (Cg.addM (Cg.refl y1) (Cg.refl x1)) (Cg.addM (Cg.refl y2) (Cg.refl x2))
  have pc0 := Cg.mulM (Cg.mulM (Cg.mulM (Cg.refl x1) (Cg.refl y1)) (Cg.mulM (Cg.refl x2) (Cg.refl y2))) (Cg.refl dN)
  have pc := Cg.addM pc0 pc0
  have pz0 := Cg.mulM (m := 1) (n := 1) (Cg.refl 1) (Cg.refl 1)
  have pz := Cg.addM pz0 pz0
  have pe := Cg.difM pb pa
  have pf := Cg.difM pz pc
  have pg := Cg.addM pz pc
  have ph := Cg.addM pb pa
  have p1 := Cg.mulM pe pf
  have p2 := Cg.mulM pg ph
  have p3 := Cg.mulM pf pg
  -- the document's
  have ra := Cg.mulM (m := 1) (n := 1) (Cg.refl 1) (Cg.refl 1)
  have rc := Cg.mulM (Cg.refl x1) (Cg.refl x2)
  have rd := Cg.mulM (Cg.refl y1) (Cg.refl y2)
  have rb := Cg.mulM ra ra
  have re := Cg.mulM (Cg.mulM (Cg.refl dN) rc) rd
  have rf := Cg.lessM rb re lt_P
  have rg := Cg.addM rb re
  have rs := Cg.addM (Cg.mulM (Cg.refl x1) (Cg.refl y2)) (Cg.mulM (Cg.refl y1) (Cg.refl x2))
  have r1 := Cg.mulM (Cg.mulM ra rf) rs
  have r2 := Cg.mulM (Cg.mulM ra rg) (Cg.addM rc rd)
  have r3 := Cg.mulM rf rg
  unfold addPt rpoint
  refine Prod.ext ?_ ?_
  · refine over_four (p1.trans (Cg.trans ?_ ((Cg.refl 4).mul r1).symm)) (p3.trans (Cg.trans ?_ ((Cg.refl 4).mul r3).symm))
    · exact ⟨0, by grind⟩
    · exact ⟨0, by grind⟩
  · refine over_four (p2.trans (Cg.trans ?_ ((Cg.refl 4).mul r2).symm)) (p3.trans (Cg.trans ?_ ((Cg.refl 4).mul r3).symm))
    · exact ⟨0, by grind⟩
    · exact ⟨0, by grind⟩
theorem neg_same (x : Nat) : difP 0 x = lessM 0 (x % fP) := by
  refine Cg.eq ((Cg.difM (m := 0) (Cg.refl 0) (Cg.refl x)).trans (Cg.lessM (m := 0) (Cg.refl 0) (Cg.mod x) lt_P).symm) lt_P lt_P
end Go.Proofs.YtgdiokklfihfoaaDoor
