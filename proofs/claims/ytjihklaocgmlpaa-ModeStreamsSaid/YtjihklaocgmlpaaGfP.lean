/- Bytes as a field, in plain Lean: what the code's loops compute, and why the two agree. No program is named here. -/
import Derived.WalkKit
import Derived.Laws.BitsAllLaws
namespace Go.Proofs.Ytjihklaocgmlpaa
open Go

/-- Times the byte 2. -/
def gx (a : Nat) : Nat := a * 2 % 256 ^^^ (if a.testBit 7 then 27 else 0)
def gxs (a : Nat) : Nat → Nat
  | 0 => a
  | i + 1 => gx (gxs a i)
/-- The sum of the products by bits of b, the first i. -/
def gl (a b : Nat) : Nat → Nat
  | 0 => 0
  | i + 1 => gl a b i ^^^ (if b.testBit i then gxs a i else 0)
def gm (a b : Nat) : Nat := gl a b 8
/-- The document's product: all products, then from the top down. -/
def ga (a b : Nat) : Nat → Nat
  | 0 => 0
  | i + 1 => ga a b i ^^^ (if b.testBit i then a * 2 ^ i else 0)
def gr (x : Nat) : Nat → Nat
  | 0 => x
  | j + 1 => gr x j ^^^ (if (gr x j).testBit (14 - j) then 283 * 2 ^ (6 - j) else 0)

theorem xor_lt8 {a b : Nat} (h : a < 256) (h' : b < 256) : a ^^^ b < 256 := Nat.xor_lt_two_pow (n := 8) h h'
theorem gx_lt (a : Nat) : gx a < 256 := xor_lt8 (Nat.mod_lt _ (by omega)) (by split <;> omega)
theorem gxs_lt {a : Nat} (h : a < 256) : ∀ i, gxs a i < 256
  | 0 => h
  | _ + 1 => gx_lt _
theorem gl_lt {a b : Nat} (h : a < 256) : ∀ i, gl a b i < 256
  | 0 => by show 0 < 256; omega
  | i + 1 => xor_lt8 (gl_lt h i) (by split; exact gxs_lt h i; omega)
theorem gm_lt {a : Nat} (h : a < 256) (b : Nat) : gm a b < 256 := gl_lt h 8
theorem ga_lt {a b : Nat} (h : a < 256) : ∀ {i}, i ≤ 8 → ga a b i < 2 ^ 16
  | 0, _ => by show 0 < _; omega
  | i + 1, hi => by
      have h1 : a * 2 ^ i < 2 ^ 16 := by
        have h2 : 2 ^ i ≤ 2 ^ 7 := Nat.pow_le_pow_right (by omega) (by omega)
        have h3 : a * 2 ^ i ≤ a * 2 ^ 7 := Nat.mul_le_mul_left _ h2
        omega
      exact Nat.xor_lt_two_pow (ga_lt h (by omega)) (by split <;> omega)
theorem gr_lt {x : Nat} (h : x < 2 ^ 16) : ∀ j, gr x j < 2 ^ 16
  | 0 => h
  | j + 1 => Nat.xor_lt_two_pow (gr_lt h j) (by
      have h2 : 2 ^ (6 - j) ≤ 2 ^ 6 := Nat.pow_le_pow_right (by omega) (by omega)
      split <;> omega)

/-! Sums. -/
theorem xor4 (a b c d : Nat) : a ^^^ b ^^^ (c ^^^ d) = a ^^^ c ^^^ (b ^^^ d) := by
  apply Nat.eq_of_testBit_eq; intro i
  simp only [Nat.testBit_xor]
  cases a.testBit i <;> cases b.testBit i <;> cases c.testBit i <;> cases d.testBit i <;> rfl
theorem ite_xor (p q : Bool) (m : Nat) : (if (p ^^ q) = true then m else 0) = (if p = true then m else 0) ^^^ (if q = true then m else 0) := by
  cases p <;> cases q <;> simp
theorem mul_pow_xor (a b i : Nat) : (a ^^^ b) * 2 ^ i = a * 2 ^ i ^^^ b * 2 ^ i := by
  simp only [← Nat.shiftLeft_eq]
  exact Nat.shiftLeft_xor_distrib
theorem gx_xor (a b : Nat) : gx (a ^^^ b) = gx a ^^^ gx b := by
  unfold gx
  rw [show (a ^^^ b) * 2 = a * 2 ^^^ b * 2 from mul_pow_xor a b 1, show 256 = 2 ^ 8 from rfl, Nat.xor_mod_two_pow, Nat.testBit_xor, ite_xor, xor4]
theorem gxs_xor (a b : Nat) : ∀ i, gxs (a ^^^ b) i = gxs a i ^^^ gxs b i
  | 0 => rfl
  | i + 1 => by show gx _ = gx _ ^^^ gx _; rw [gxs_xor a b i, gx_xor]
theorem gl_xor_r (a b c : Nat) : ∀ i, gl a (b ^^^ c) i = gl a b i ^^^ gl a c i
  | 0 => by simp [gl]
  | i + 1 => by simp only [gl]; rw [gl_xor_r a b c i, Nat.testBit_xor, ite_xor, xor4]
theorem gl_xor_l (a b c : Nat) : ∀ i, gl (a ^^^ b) c i = gl a c i ^^^ gl b c i
  | 0 => by simp [gl]
  | i + 1 => by
      simp only [gl]; rw [gl_xor_l a b c i, gxs_xor]
      split
      · exact xor4 _ _ _ _
      · simp
theorem gm_xor_r (a b c : Nat) : gm a (b ^^^ c) = gm a b ^^^ gm a c := gl_xor_r a b c 8
theorem gm_xor_l (a b c : Nat) : gm (a ^^^ b) c = gm a c ^^^ gm b c := gl_xor_l a b c 8
theorem ga_xor_l (a b c : Nat) : ∀ i, ga (a ^^^ b) c i = ga a c i ^^^ ga b c i
  | 0 => by simp [ga]
  | i + 1 => by
      simp only [ga]; rw [ga_xor_l a b c i, mul_pow_xor]
      split
      · exact xor4 _ _ _ _
      · simp
theorem ga_xor_r (a b c : Nat) : ∀ i, ga a (b ^^^ c) i = ga a b i ^^^ ga a c i
  | 0 => by simp [ga]
  | i + 1 => by simp only [ga]; rw [ga_xor_r a b c i, Nat.testBit_xor, ite_xor, xor4]
theorem gr_xor (x y : Nat) : ∀ j, gr (x ^^^ y) j = gr x j ^^^ gr y j
  | 0 => rfl
  | j + 1 => by simp only [gr]; rw [gr_xor x y j, Nat.testBit_xor, ite_xor, xor4]

/-- Two sums that agree on the powers of two agree. -/
theorem lin_ext {F G : Nat → Nat} (hF : ∀ a b, F (a ^^^ b) = F a ^^^ F b) (hG : ∀ a b, G (a ^^^ b) = G a ^^^ G b) (n : Nat) (h : ∀ i < n, F (2 ^ i) = G (2 ^ i)) : ∀ x < 2 ^ n, F x = G x := by
  have h0 : ∀ {H : Nat → Nat}, (∀ a b, H (a ^^^ b) = H a ^^^ H b) → H 0 = 0 := fun {H} hH => by
    have := hH 0 0
    simpa using this
  induction n with
  | zero => intro x hx; obtain rfl : x = 0 := by simpa using hx
            rw [h0 hF, h0 hG]
  | succ n ih =>
    intro x hx
    rcases Nat.lt_or_ge x (2 ^ n) with hlt | hge
    · exact ih (fun i hi => h i (by omega)) x hlt
    · have hx2 : x = (x - 2 ^ n) ^^^ 2 ^ n := by
        have h1 : x - 2 ^ n < 2 ^ n := by rw [Nat.pow_succ] at hx; omega
        have h2 := Nat.two_pow_add_eq_or_of_lt h1 1
        have h3 : (x - 2 ^ n) ^^^ 2 ^ n = (x - 2 ^ n) + 2 ^ n := by
          apply Nat.eq_of_testBit_eq; intro i
          rw [Nat.testBit_xor, Nat.testBit_two_pow]
          rcases Nat.lt_trichotomy i n with hi | hi | hi
          · rw [Nat.add_comm, Nat.testBit_two_pow_add_gt hi]; simp [show n ≠ i by omega]
          · subst hi
            rw [Nat.add_comm, Nat.testBit_two_pow_add_eq, Nat.testBit_lt_two_pow h1]; simp
          · have hp : 2 ^ (n + 1) ≤ 2 ^ i := Nat.pow_le_pow_right (by omega) (by omega)
            rw [Nat.testBit_lt_two_pow (by omega : x - 2 ^ n < 2 ^ i), Nat.testBit_lt_two_pow (by omega : x - 2 ^ n + 2 ^ n < 2 ^ i)]
            simp; omega
        omega
      rw [hx2, hF, hG, ih (fun i hi => h i (by omega)) (x - 2 ^ n) (by rw [Nat.pow_succ] at hx; omega), h n (by omega)]

theorem gf_eq {a b : Nat} (ha : a < 256) (hb : b < 256) : gr (ga a b 8) 7 % 256 = gm a b := by
  have hm : ∀ x y : Nat, (x ^^^ y) % 256 = x % 256 ^^^ y % 256 := fun x y => Nat.xor_mod_two_pow (n := 8)
  refine lin_ext (F := fun a => gr (ga a b 8) 7 % 256) (G := fun a => gm a b) (fun x y => by simp only [ga_xor_l, gr_xor, hm]) (fun x y => gm_xor_l x y b) 8 (fun i hi => ?_) a ha
  refine lin_ext (F := fun b => gr (ga (2 ^ i) b 8) 7 % 256) (G := fun b => gm (2 ^ i) b) (fun x y => by simp only [ga_xor_r, gr_xor, hm]) (fun x y => gm_xor_r _ x y) 8 (fun j hj => ?_) b hb
  exact (by decide +kernel : ∀ i < 8, ∀ j < 8, gr (ga (2 ^ i) (2 ^ j) 8) 7 % 256 = gm (2 ^ i) (2 ^ j)) i hi j hj

/-! The code's product, from the least bit on. -/
def gmul : Nat → Nat → Nat → Nat → Nat
  | 0, o, _, _ => o
  | f + 1, o, a, b => gmul f (if b % 2 = 1 then o ^^^ a else o) (gx a) (b / 2)
theorem gmul_zero {f o a : Nat} : gmul f o a 0 = o := by
  induction f generalizing o a with
  | zero => rfl
  | succ f ih => show gmul f _ _ _ = o; simp only [Nat.zero_mod, Nat.zero_div]; exact ih
theorem gmul_gl {a b : Nat} : ∀ {f i}, f + i = 8 → gmul f (gl a b i) (gxs a i) (b / 2 ^ i) = gm a b
  | 0, i, h => by obtain rfl : i = 8 := by omega
                  rfl
  | f + 1, i, h => by
      have := gmul_gl (a := a) (b := b) (f := f) (i := i + 1) (by omega)
      rw [← this]
      show gmul f _ _ _ = _
      have h1 : b / 2 ^ i / 2 = b / 2 ^ (i + 1) := by rw [Nat.div_div_eq_div_mul, Nat.pow_succ]
      have h2 : (if b / 2 ^ i % 2 = 1 then gl a b i ^^^ gxs a i else gl a b i) = gl a b (i + 1) := by
        simp only [gl, Nat.testBit_eq_decide_div_mod_eq, decide_eq_true_eq]
        split <;> simp
      rw [h1, h2]; rfl
theorem gmul_gm (a b : Nat) : gmul 8 0 a b = gm a b := by simpa [gl, gxs] using gmul_gl (a := a) (b := b) (f := 8) (i := 0) rfl

/-! Powers of 3. -/
def ge : Nat → Nat
  | 0 => 1
  | i + 1 => gm (ge i) 3
def lgs : List Nat := (Nat.rec ([], 1) (fun i r => ((r.2, i) :: r.1, gm r.2 3)) 255 : List (Nat × Nat) × Nat).1.foldl (fun t p => t.set p.1 p.2) (List.replicate 256 0)
def lg (a : Nat) : Nat := lgs[a]?.getD 0

theorem gm_gx {x y : Nat} (hx : x < 256) (hy : y < 256) : gm x (gx y) = gx (gm x y) := by
  refine lin_ext (F := fun a => gm a (gx y)) (G := fun a => gx (gm a y)) (fun a b => gm_xor_l a b _) (fun a b => by simp only [gm_xor_l, gx_xor]) 8 (fun i hi => ?_) x hx
  refine lin_ext (F := fun b => gm (2 ^ i) (gx b)) (G := fun b => gx (gm (2 ^ i) b)) (fun a b => by simp only [gx_xor, gm_xor_r]) (fun a b => by simp only [gm_xor_r, gx_xor]) 8 (fun j hj => ?_) y hy
  exact (by decide +kernel : ∀ i < 8, ∀ j < 8, gm (2 ^ i) (gx (2 ^ j)) = gx (gm (2 ^ i) (2 ^ j))) i hi j hj
theorem gm3 (x : Nat) : gm x 3 = x ^^^ gx x := by
  simp [gm, gl, gxs, show Nat.testBit 3 0 = true from rfl, show Nat.testBit 3 1 = true from rfl, show Nat.testBit 3 2 = false from rfl, show Nat.testBit 3 3 = false from rfl, show Nat.testBit 3 4 = false from rfl, show Nat.testBit 3 5 = false from rfl, show Nat.testBit 3 6 = false from rfl, show Nat.testBit 3 7 = false from rfl]
theorem gm1 (x : Nat) : gm x 1 = x := by
  simp [gm, gl, gxs, show Nat.testBit 1 0 = true from rfl, show Nat.testBit 1 1 = false from rfl, show Nat.testBit 1 2 = false from rfl, show Nat.testBit 1 3 = false from rfl, show Nat.testBit 1 4 = false from rfl, show Nat.testBit 1 5 = false from rfl, show Nat.testBit 1 6 = false from rfl, show Nat.testBit 1 7 = false from rfl]
theorem gm0r (x : Nat) : gm x 0 = 0 := by simp [gm, gl]
theorem gx0 : gx 0 = 0 := by decide
theorem gxs0 : ∀ i, gxs 0 i = 0
  | 0 => rfl
  | i + 1 => by show gx _ = 0; rw [gxs0 i]; rfl
theorem gl0 (b : Nat) : ∀ i, gl 0 b i = 0
  | 0 => rfl
  | i + 1 => by simp [gl, gl0 b i, gxs0]
theorem gm0l (x : Nat) : gm 0 x = 0 := gl0 x 8
theorem ge_lt : ∀ i, ge i < 256
  | 0 => by show 1 < 256; omega
  | i + 1 => gm_lt (ge_lt i) 3
theorem assoc3 {x y : Nat} (hx : x < 256) (hy : y < 256) : gm x (gm y 3) = gm (gm x y) 3 := by
  rw [gm3, gm3, gm_xor_r, gm_gx hx hy]
theorem assoc_ge {x y : Nat} (hx : x < 256) (hy : y < 256) : ∀ j, gm (gm x y) (ge j) = gm x (gm y (ge j))
  | 0 => by show gm _ 1 = gm _ (gm _ 1); rw [gm1, gm1]
  | j + 1 => by
      show gm _ (gm _ 3) = gm _ (gm _ (gm _ 3))
      rw [assoc3 (gm_lt hx y) (ge_lt j), assoc_ge hx hy j, assoc3 hy (ge_lt j), assoc3 hx (gm_lt hy _)]
theorem gm_ge (i : Nat) : ∀ j, gm (ge i) (ge j) = ge (i + j)
  | 0 => gm1 _
  | j + 1 => by show gm _ (gm _ 3) = gm _ 3; rw [assoc3 (ge_lt i) (ge_lt j), gm_ge i j]; rfl
theorem ge_255 : ge 255 = 1 := by decide +kernel
theorem ge_per (i : Nat) : ge (i + 255) = ge i := by rw [← gm_ge, ge_255, gm1]
theorem ge_mod (i : Nat) : ge (i % 255) = ge i := by
  have : ∀ q r, ge (r + 255 * q) = ge r := fun q => by
    induction q with
    | zero => intro r; rfl
    | succ q ih => intro r; rw [show r + 255 * (q + 1) = r + 255 * q + 255 by omega, ge_per, ih]
  have h := this (i / 255) (i % 255)
  rw [← h, Nat.mod_add_div]
theorem lg_tbl : (List.range 255).all (fun i => lg (ge i) == i) = true ∧ (List.range 256).all (fun a => a == 0 || ge (lg a) == a && Nat.blt (lg a) 255) = true := by decide +kernel
theorem lg_ge {i : Nat} (h : i < 255) : lg (ge i) = i := by
  have := List.all_eq_true.1 lg_tbl.1 i (List.mem_range.2 h)
  simpa using this
theorem ge_lg {a : Nat} (h : a < 256) (h0 : a ≠ 0) : ge (lg a) = a ∧ lg a < 255 := by
  have := List.all_eq_true.1 lg_tbl.2 a (List.mem_range.2 h)
  simpa [h0, Nat.blt_eq] using this
theorem ge_ne (i : Nat) : ge i ≠ 0 := by
  intro h
  have h2 := gm_ge i (255 - i % 255)
  rw [h, gm0l] at h2
  have h3 : ge (i + (255 - i % 255)) = 1 := by
    rw [← ge_mod, show (i + (255 - i % 255)) % 255 = 0 by omega]; rfl
  omega
theorem lg_ge' (i : Nat) : lg (ge i) = i % 255 := by rw [← ge_mod, lg_ge (Nat.mod_lt _ (by omega))]
theorem gm_assoc {x y z : Nat} (hx : x < 256) (hy : y < 256) (hz : z < 256) : gm (gm x y) z = gm x (gm y z) := by
  by_cases h : z = 0
  · subst h; simp only [gm0r]
  · obtain ⟨h1, _⟩ := ge_lg hz h
    rw [← h1]; exact assoc_ge hx hy _

theorem gm_comm {x y : Nat} (hx : x < 256) (hy : y < 256) : gm x y = gm y x := by
  by_cases h0 : x = 0
  · subst h0; rw [gm0l, gm0r]
  · by_cases h1 : y = 0
    · subst h1; rw [gm0l, gm0r]
    · rw [← (ge_lg hx h0).1, ← (ge_lg hy h1).1, gm_ge, gm_ge, Nat.add_comm]

/-- a taken n times. -/
def gp (a n : Nat) : Nat := if a = 0 then (if n = 0 then 1 else 0) else ge (lg a * n)
theorem gp_lt (a n : Nat) : gp a n < 256 := by
  unfold gp; split
  · split <;> omega
  · exact ge_lt _
theorem gp_zero (a : Nat) : gp a 0 = 1 := by unfold gp; split <;> simp [ge]
theorem gp_succ {a : Nat} (h : a < 256) (n : Nat) : gp a (n + 1) = gm a (gp a n) := by
  unfold gp
  by_cases h0 : a = 0
  · subst h0; simp [gm0l]
  · rw [if_neg h0, if_neg h0]
    conv => rhs; rw [← (ge_lg h h0).1]
    rw [gm_ge, (ge_lg h h0).1, Nat.mul_succ, Nat.add_comm]
theorem gp_succ' {a : Nat} (h : a < 256) (n : Nat) : gp a (n + 1) = gm (gp a n) a := by
  unfold gp
  by_cases h0 : a = 0
  · subst h0; simp [gm0r]
  · rw [if_neg h0, if_neg h0]
    conv => rhs; rw [← (ge_lg h h0).1]
    rw [gm_ge, (ge_lg h h0).1, Nat.mul_succ]
theorem gp_sq {a : Nat} (h : a < 256) (n : Nat) : gp (gm a a) n = gp a (2 * n) := by
  by_cases h0 : a = 0
  · subst h0; rw [gm0l]; simp only [gp, if_true]; by_cases hn : n = 0 <;> simp [hn] <;> omega
  · have h1 : gm a a = ge (lg a + lg a) := by
      conv => lhs; rw [← (ge_lg h h0).1]
      rw [gm_ge]
    unfold gp
    rw [h1, if_neg (ge_ne _), if_neg h0, lg_ge', ← ge_mod, ← ge_mod (lg a * (2 * n))]
    apply congrArg ge
    rw [Nat.mod_mul_mod, show (lg a + lg a) * n = lg a * (2 * n) by rw [← Nat.two_mul, Nat.mul_comm 2, Nat.mul_assoc]]
theorem gp_mod {a : Nat} (h0 : a ≠ 0) (n : Nat) : gp a (n % 255) = gp a n := by
  unfold gp
  rw [if_neg h0, if_neg h0, ← ge_mod, ← ge_mod (lg a * n), Nat.mul_mod_mod]
/-- a round of the code's power -/
theorem gp_round {o a n : Nat} (ho : o < 256) (ha : a < 256) : gm (if n % 2 = 1 then gm o a else o) (gp (gm a a) (n / 2)) = gm o (gp a n) := by
  rw [gp_sq ha]
  split
  · rw [gm_assoc ho ha (gp_lt _ _), ← gp_succ ha, show 2 * (n / 2) + 1 = n by omega]
  · rw [show 2 * (n / 2) = n by omega]

/-- The other. -/
def ginv (a : Nat) : Nat := gp a 254
theorem ginv_lt (a : Nat) : ginv a < 256 := gp_lt _ _
theorem ginv_zero : ginv 0 = 0 := by simp [ginv, gp]
theorem gm_ginv {a : Nat} (h : a < 256) (h0 : a ≠ 0) : gm a (ginv a) = 1 := by
  unfold ginv
  rw [← gp_succ h, ← gp_mod h0]; exact gp_zero a
theorem ginv_only {a b : Nat} (h : a < 256) (hb : b < 256) (h1 : gm a b = 1) : a ≠ 0 ∧ b = ginv a := by
  have h0 : a ≠ 0 := by rintro rfl; rw [gm0l] at h1; omega
  have hb0 : b ≠ 0 := by rintro rfl; rw [gm0r] at h1; omega
  refine ⟨h0, ?_⟩
  obtain ⟨ha1, ha2⟩ := ge_lg h h0
  obtain ⟨hb1, hb2⟩ := ge_lg hb hb0
  rw [← ha1, ← hb1, gm_ge, ← ge_mod] at h1
  have h2 := lg_ge (i := (lg a + lg b) % 255) (Nat.mod_lt _ (by omega))
  rw [h1, show (1 : Nat) = ge 0 from rfl, lg_ge (by omega)] at h2
  have h3 := gm_ginv h h0
  rw [← hb1]
  unfold ginv gp
  rw [if_neg h0, ← ge_mod, ← ge_mod (lg a * 254)]
  apply congrArg ge
  omega
end Go.Proofs.Ytjihklaocgmlpaa
