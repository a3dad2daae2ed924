/- Several texts one behind the other: Ed3 Ed4 FeP Num3 NumN Fe1 Fe2 Fe3 Num4 Num5 Fe4 Fe5 RpB Rp1. -/
import Derived.Test.YtodcjeaannfbnaaEd2
import Derived.Test.YtodcjeaannfbnaaCvP
import Derived.Test.YtodcjeaannfbnaaPrm
import Derived.Test.YtodcjeaannfbnaaFdP
import Derived.Test.YtodcjeaannfbnaaNum
import Derived.RegionTactic
import Derived.Test.YtodcjeaannfbnaaNum2
import Derived.Test.YtodcjeaannfbnaaFd1
import Derived.Test.YtodcjeaannfbnaaLimb
import Derived.Deep.RegionLaw
import Derived.Deep.DeepCutAuto
import Derived.Laws.OwnMore
import Derived.Test.YtodcjeaannfbnaaTail
import Derived.Test.YtodcjeaannfbnaaBld
import Derived.Test.YtodcjeaannfbnaaCv4
import Derived.Test.YtodcjeaannfbnaaCalmS
import Derived.Test.YtodcjeaannfbnaaOneW
namespace Go.Proofs.Ytodcjeaannfbnaa
set_option maxHeartbeats 2000000
instance neP : NeZero fP := ⟨by have := fP_pos; omega⟩
section
variable {n : Nat} [NeZero n]
/-- A number modulo n. -/
def fi (n : Nat) [NeZero n] (a : Nat) : Fin n := ⟨a % n, Nat.mod_lt _ (Nat.pos_of_ne_zero (NeZero.ne n))⟩
theorem fi_val (a : Nat) : (fi n a).val = a % n := rfl
theorem fi_self (x : Fin n) : fi n x.val = x := Fin.ext (Nat.mod_eq_of_lt x.isLt)
theorem fi_mod (a : Nat) : fi n (a % n) = fi n a := Fin.ext (Nat.mod_mod _ _)
theorem fi_mul (a b : Nat) : fi n (a * b % n) = fi n a * fi n b := Fin.ext (by rw [Fin.val_mul, fi_val, fi_val, fi_val, Nat.mod_mod, Nat.mul_mod])
theorem fi_add (a b : Nat) : fi n ((a + b) % n) = fi n a + fi n b := Fin.ext (by rw [Fin.val_add, fi_val, fi_val, fi_val, Nat.mod_mod, Nat.add_mod])
theorem fi_sub (a b : Nat) : fi n ((a % n + (n - b % n)) % n) = fi n a - fi n b := Fin.ext (by rw [Fin.sub_def, fi_val, fi_val, fi_val, Nat.mod_mod, Nat.add_comm])
theorem fi_less (a b : Nat) (hb : b < n) : fi n ((a + 4 * n - b) % n) = fi n a - fi n b := by
  rw [← fi_sub]
  refine Fin.ext ?_
  rw [fi_val, fi_val, Nat.mod_eq_of_lt hb, Nat.mod_mod, Nat.mod_mod, Nat.mod_add_mod]
  rw [show a + 4 * n - b = a + (n - b) + n * 3 by omega, Nat.add_mul_mod_self_left]
theorem fi_zero : fi n 0 = 0 := Fin.ext (by rw [fi_val, Nat.zero_mod]; rfl)
theorem fi_one : fi n 1 = 1 := Fin.ext rfl
theorem fi_iff (a : Nat) : fi n a = 0 ↔ n ∣ a := by
  constructor
  · intro h
    have := congrArg Fin.val h
    rw [fi_val] at this
    exact Nat.dvd_of_mod_eq_zero (by rw [this]; rfl)
  · intro h
    exact Fin.ext (by rw [fi_val, Nat.mod_eq_zero_of_dvd h]; rfl)
end
/-- One over a number. -/
def ivP (t : Fin fP) : Fin fP := fi fP (invP t.val)
theorem ivP_fi (a : Nat) : ivP (fi fP a) = fi fP (invP a) := by
  unfold ivP invP
  rw [fi_val, pow_mod_P]
theorem d_half : dN ^ ((fP - 1) / 2) % fP = fP - 1 := by
  have h : (fP - 1) / 2 < 2 ^ 256 := Nat.lt_of_le_of_lt (Nat.le_trans (Nat.div_le_self _ _) (Nat.sub_le _ _)) P_lt
  rw [← pwf_is dN 256 _ h]
  decide +kernel
theorem half_P : 2 * ((fP - 1) / 2) = fP - 1 := by decide +kernel
theorem im_P : (19681161376707505956807079304988542015446066515923890162744021073123829784752 * 19681161376707505956807079304988542015446066515923890162744021073123829784752 + 1) % fP = 0 := by decide +kernel
/-- d is no square. -/
theorem d_sq {u v : Nat} (h : dN * u * u % fP = v * v % fP) : u % fP = 0 := by
  have hh := half_P
  have hd := d_half
  have hp := @pow_P
  have h2 := fP_pos
  generalize (fP - 1) / 2 = e at *
  generalize dN = d at *
  rcases Nat.eq_zero_or_pos (u % fP) with hu | hu
  · exact hu
  exfalso
  have hu1 := hp (u := u) (by omega)
  have h3 : (d * u * u) ^ e % fP = (v * v) ^ e % fP := by rw [Nat.pow_mod, h, ← Nat.pow_mod]
  have hs : ∀ x : Nat, (x * x) ^ e = x ^ (fP - 1) := fun x => by rw [← hh, Nat.pow_mul, Nat.pow_two]
  rw [Nat.mul_assoc, Nat.mul_pow, hs, hs, Nat.mul_mod, hd, hu1, Nat.mul_one] at h3
  generalize fP = P at *
  rw [Nat.mod_eq_of_lt (by omega)] at h3
  by_cases hv : v % P = 0
  · rw [Nat.pow_mod, hv, Nat.zero_pow (by omega), Nat.zero_mod] at h3
    omega
  · rw [hp hv] at h3
    omega
theorem edP : EdOk fP (fi fP dN) ivP where
  dom a b h := by
    have h1 := congrArg Fin.val h
    rw [Fin.val_mul] at h1
    have h2 : fP ∣ a.val * b.val := Nat.dvd_of_mod_eq_zero (by rw [h1]; rfl)
    rcases fP_pr.dvd h2 with h3 | h3
    · exact .inl (by rw [← fi_self a]; exact (fi_iff _).2 h3)
    · exact .inr (by rw [← fi_self b]; exact (fi_iff _).2 h3)
  inv a h := by
    have h1 : a.val % fP ≠ 0 := fun e => h (by rw [← fi_self a]; exact (fi_iff _).2 (Nat.dvd_of_mod_eq_zero e))
    have h2 := pow_P h1
    refine (congrArg (· * ivP a) (fi_self a).symm).trans ?_
    show fi fP a.val * fi fP (invP a.val) = 1
    rw [← fi_mul, fi_mod]
    unfold invP
    refine Fin.ext ?_
    rw [fi_val, Nat.mul_mod_mod, Nat.mul_comm, ← Nat.pow_succ]
    have h3 : (fP - 2).succ = fP - 1 := by have := fP_pos; omega
    rw [h3, h2]
    exact (Nat.mod_eq_of_lt (Nat.lt_trans (by omega) fP_pos)).symm
  im := by
    refine ⟨fi fP 19681161376707505956807079304988542015446066515923890162744021073123829784752, ?_⟩
    have h := im_P
    have h1 : fi fP ((19681161376707505956807079304988542015446066515923890162744021073123829784752 * 19681161376707505956807079304988542015446066515923890162744021073123829784752 + 1) % fP) = 0 := by rw [h, fi_zero]
    rw [fi_add, ← fi_mod (_ * _), fi_mul, fi_one] at h1
    generalize fi fP 19681161376707505956807079304988542015446066515923890162744021073123829784752 = i at *
    grind
  sq u v h := by
    have h1 := congrArg Fin.val h
    rw [Fin.val_mul, Fin.val_mul, Fin.val_mul, fi_val, Nat.mod_mul_mod, Nat.mul_assoc, Nat.mod_mul_mod, ← Nat.mul_assoc] at h1
    have h2 := d_sq h1
    rw [← fi_self u]
    exact (fi_iff _).2 (Nat.dvd_of_mod_eq_zero h2)
  two h := by
    have h1 := congrArg Fin.val h
    have h2 : ((2 : Fin fP)).val = 2 % fP := rfl
    rw [h2, Nat.mod_eq_of_lt (Nat.lt_trans (by omega) fP_pos)] at h1
    cases h1
  one h := by
    have h1 := congrArg Fin.val h
    have h2 : ((1 : Fin fP)).val = 1 % fP := rfl
    rw [h2, Nat.mod_eq_of_lt (Nat.lt_trans (by omega) fP_pos)] at h1
    cases h1
end Go.Proofs.Ytodcjeaannfbnaa
namespace Go.Proofs.Ytodcjeaannfbnaa
set_option maxHeartbeats 2000000
/-- A point's places as numbers modulo P. -/
def ptP (x y : Nat) : Fin fP × Fin fP := (fi fP x, fi fP y)
/-- n times a point. -/
def tmP (x y k : Nat) : Fin fP × Fin fP := edMul (fi fP dN) ivP (ptP x y) k
theorem fi_dif (a b : Nat) : fi fP (difP a b) = fi fP a - fi fP b := fi_sub a b
theorem fi_lessM (a e : Nat) : fi fP (lessM a (e % fP)) = fi fP a - fi fP (e % fP) := fi_less a _ lt_P
theorem on_ed {x y : Nat} (h : onB x y = true) : edOn (fi fP dN) (ptP x y) := by
  unfold onB at h
  rw [Bool.and_eq_true, Bool.and_eq_true, decide_eq_true_eq, decide_eq_true_eq, decide_eq_true_eq] at h
  have h1 := congrArg (fi fP) h.2
  simp only [fi_dif, fi_add, fi_one, fi_mul] at h1
  unfold edOn ptP
  simp only
  rw [h1]
  generalize fi fP x = a
  generalize fi fP y = b
  generalize fi fP dN = d
  clear h1 h
  grind
structure RpN (p : Fin fP × Fin fP) (X Y Z : Nat) : Prop where
  r : Rp p (fi fP X) (fi fP Y) (fi fP Z)
structure RpQ (p : Fin fP × Fin fP) (X Y Z T : Nat) : Prop where
  r : Rp p (fi fP X) (fi fP Y) (fi fP Z)
  t : fi fP T = p.1 * p.2 * fi fP Z
theorem tm_on {x y : Nat} (h : onB x y = true) (k : Nat) : edOn (fi fP dN) (tmP x y k) := edP.mul_on (on_ed h) k
theorem tm_add {x y : Nat} (h : onB x y = true) (a b : Nat) : edAdd (fi fP dN) ivP (tmP x y a) (tmP x y b) = tmP x y (a + b) := edP.mul_add (on_ed h) a b
theorem tm_one {x y : Nat} : tmP x y 1 = ptP x y := edP.mul_one
theorem tm_zero {x y : Nat} : tmP x y 0 = (0, 1) := rfl
theorem rpN_zero {x y : Nat} : RpN (tmP x y 0) 0 1 1 := ⟨by
  rw [tm_zero, fi_zero, fi_one]
  exact ⟨by simp only; grind, by simp only; grind, edP.one⟩⟩
theorem rpQ_zero {x y : Nat} : RpQ (tmP x y 0) 0 1 1 (0 * 1 % fP) := ⟨rpN_zero.r, by
  rw [tm_zero, fi_one, Nat.zero_mul, fi_mod, fi_zero]
  simp only
  grind⟩
theorem rpN_one {x y : Nat} : RpN (tmP x y 1) x y 1 := ⟨by
  rw [tm_one, fi_one]
  unfold ptP
  exact ⟨by simp only; grind, by simp only; grind, edP.one⟩⟩
theorem rpQ_one {x y : Nat} : RpQ (tmP x y 1) x y 1 (x * y % fP) := ⟨rpN_one.r, by
  rw [tm_one, fi_one, fi_mul]
  unfold ptP
  simp only
  grind⟩
theorem rpN_mod {p : Fin fP × Fin fP} {X Y Z : Nat} (h : RpN p X Y Z) : RpN p (X % fP) (Y % fP) Z := ⟨by rw [fi_mod, fi_mod]; exact h.r⟩
theorem rpN_plus {x y : Nat} (h : onB x y = true) {a b X1 Y1 Z1 X2 Y2 Z2 : Nat} (h1 : RpN (tmP x y a) X1 Y1 Z1) (h2 : RpN (tmP x y b) X2 Y2 Z2) {r : Nat × Nat × Nat} (hr : rplus X1 Y1 Z1 X2 Y2 Z2 = r) : RpN (tmP x y (a + b)) r.1 r.2.1 r.2.2 := by
  subst hr
  refine ⟨?_⟩
  rw [← tm_add h]
  have k := edP.rplus (tm_on h a) (tm_on h b) h1.r h2.r rfl rfl rfl rfl rfl
  unfold rplus
  simp only
  simp only [fi_lessM, fi_mul, fi_add]
  exact k
theorem rpQ_plus {x y : Nat} (h : onB x y = true) {a b X1 Y1 Z1 T1 X2 Y2 Z2 T2 : Nat} (h1 : RpQ (tmP x y a) X1 Y1 Z1 T1) (h2 : RpQ (tmP x y b) X2 Y2 Z2 T2) {r : Nat × Nat × Nat × Nat} (hr : qplus X1 Y1 Z1 T1 X2 Y2 Z2 T2 = r) : RpQ (tmP x y (a + b)) r.1 r.2.1 r.2.2.1 r.2.2.2 := by
  subst hr
  rw [← tm_add h]
  have k := edP.qplus (tm_on h a) (tm_on h b) h1.r h2.r h1.t h2.t rfl rfl rfl rfl rfl rfl rfl rfl rfl rfl
  unfold qplus
  simp only
  exact ⟨by simp only [fi_mul, fi_add, fi_dif]; exact k.1, by simp only [fi_mul, fi_add, fi_dif]; exact k.2⟩
theorem rpN_out {p : Fin fP × Fin fP} {X Y Z : Nat} (h : RpN p X Y Z) : X * invP Z % fP = p.1.val ∧ Y * invP Z % fP = p.2.val := by
  have k := h.r.out edP
  rw [ivP_fi, ← fi_mul, ← fi_mul] at k
  have e1 := congrArg Fin.val k.1
  have e2 := congrArg Fin.val k.2
  rw [fi_val, Nat.mod_mod] at e1 e2
  exact ⟨e1, e2⟩
end Go.Proofs.Ytodcjeaannfbnaa
namespace Go.Proofs.Ytodcjeaannfbnaa
/-- The value of the first n digits. -/
def dval (f : Nat → Nat) : Nat → Nat
  | 0 => 0
  | n + 1 => dval f n + 65536 ^ n * f n
/-- Digit i. -/
def dgt (n i : Nat) : Nat := n / 65536 ^ i % 65536
theorem dgt_lt (n i : Nat) : dgt n i < 65536 := Nat.mod_lt _ (by omega)
theorem dval_dgt (n k : Nat) : dval (dgt n) k = n % 65536 ^ k := by
  induction k with
  | zero => simp [dval, Nat.mod_one]
  | succ k ih => rw [dval, ih, Nat.pow_succ, Nat.mod_mul]; rfl
theorem dval_lt {f : Nat → Nat} {k : Nat} (h : ∀ i < k, f i < 65536) : dval f k < 65536 ^ k := by
  induction k with
  | zero => simp [dval]
  | succ k ih =>
    have h1 := ih fun i hi => h i (by omega)
    have h2 := h k (by omega)
    rw [dval, Nat.pow_succ]
    have h3 : 65536 ^ k * f k ≤ 65536 ^ k * 65535 := Nat.mul_le_mul_left _ (by omega)
    generalize 65536 ^ k = P at *
    omega
theorem dval_congr {f g : Nat → Nat} {k : Nat} (h : ∀ i < k, f i = g i) : dval f k = dval g k := by
  induction k with
  | zero => rfl
  | succ k ih => rw [dval, dval, ih fun i hi => h i (by omega), h k (by omega)]
theorem dgt_dval {f : Nat → Nat} {k : Nat} (h : ∀ i < k, f i < 65536) : ∀ i < k, dgt (dval f k) i = f i := by
  induction k with
  | zero => intro i hi; omega
  | succ k ih =>
    intro i hi
    have h1 := dval_lt (f := f) (k := k) fun j hj => h j (by omega)
    unfold dgt
    rw [dval]
    by_cases e : i = k
    · subst e
      rw [Nat.add_mul_div_left _ _ (Nat.pow_pos (by omega)), Nat.div_eq_of_lt h1, Nat.zero_add, Nat.mod_eq_of_lt (h i hi)]
    · have hik : i < k := by omega
      have h2 := ih (fun j hj => h j (by omega)) i hik
      unfold dgt at h2
      rw [← h2]
      obtain ⟨m, rfl⟩ : ∃ m, k = i + 1 + m := ⟨k - i - 1, by omega⟩
      rw [show 65536 ^ (i + 1 + m) * f (i + 1 + m) = 65536 ^ i * (65536 * (65536 ^ m * f (i + 1 + m))) by rw [Nat.pow_add, Nat.pow_succ, Nat.mul_assoc, Nat.mul_assoc], Nat.add_mul_div_left _ _ (Nat.pow_pos (by omega)), Nat.add_mul_mod_self_left]
theorem dval_le {f : Nat → Nat} {k B : Nat} (h : ∀ i < k, f i ≤ B) : dval f k ≤ B * 65536 ^ k := by
  induction k with
  | zero => simp [dval]
  | succ k ih =>
    have h1 := ih fun i hi => h i (by omega)
    have h3 : 65536 ^ k * f k ≤ 65536 ^ k * B := Nat.mul_le_mul_left _ (h k (by omega))
    rw [dval, Nat.pow_succ, ← Nat.mul_assoc]
    rw [Nat.mul_comm _ B] at h3
    generalize B * 65536 ^ k = P at *
    omega
theorem p16 : (65536 : Nat) ^ 16 = 2 ^ 256 := by decide +kernel

/-! A pass over the digits with a carry. -/
def lcar (f : Nat → Nat) (c : Nat) : Nat → Nat
  | 0 => c
  | k + 1 => (lcar f c k + f k) / 65536
def lout (f : Nat → Nat) (c k : Nat) : Nat := (lcar f c k + f k) % 65536
theorem lout_lt (f : Nat → Nat) (c k : Nat) : lout f c k < 65536 := Nat.mod_lt _ (by omega)
theorem lout_dval (f : Nat → Nat) (c n : Nat) : dval (lout f c) n + 65536 ^ n * lcar f c n = dval f n + c := by
  induction n with
  | zero => simp [dval, lcar]
  | succ n ih =>
    have h5 : lout f c n + 65536 * lcar f c (n + 1) = lcar f c n + f n := by unfold lout; rw [show lcar f c (n + 1) = (lcar f c n + f n) / 65536 from rfl]; omega
    simp only [dval]
    rw [Nat.pow_succ]
    generalize 65536 ^ n = P at *
    have h6 : P * (lout f c n + 65536 * lcar f c (n + 1)) = P * (lcar f c n + f n) := by rw [h5]
    rw [Nat.mul_add, Nat.mul_add] at h6
    rw [Nat.mul_assoc]
    omega
/-- Small enough that nothing runs over. -/
def Tame (f : Nat → Nat) : Prop := ∀ i < 17, f i < 36028797018963968
theorem lcar_le {f : Nat → Nat} {c : Nat} (h : Tame f) (hc : c ≤ 1369094286720630784) : ∀ k ≤ 17, lcar f c k ≤ 1369094286720630784
  | 0, _ => hc
  | k + 1, hk => by
    have h1 := lcar_le h hc k (by omega)
    have h2 := h k (by omega)
    unfold lcar; omega
/-- One pass of least. -/
def lpass (f : Nat → Nat) (i : Nat) : Nat := if i < 16 then lout f (f 16 * 38) i else lcar f (f 16 * 38) 16
def lpassN (f : Nat → Nat) : Nat → Nat → Nat
  | 0 => f
  | k + 1 => lpass (lpassN f k)
theorem lpass_tame {f : Nat → Nat} (h : Tame f) : Tame (lpass f) := by
  intro i hi
  unfold lpass
  split
  · exact Nat.lt_trans (lout_lt _ _ _) (by omega)
  · have h16 := h 16 (by omega)
    have h1 := lcar_le (c := f 16 * 38) h (by omega) 15 (by omega)
    have h2 := h 15 (by omega)
    show (lcar f (f 16 * 38) 15 + f 15) / 65536 < _
    omega
theorem lpassN_tame {f : Nat → Nat} (h : Tame f) : ∀ k, Tame (lpassN f k)
  | 0 => h
  | k + 1 => lpass_tame (lpassN_tame h k)
/-- What a pass does to the value. -/
theorem lpass_val (f : Nat → Nat) : dval (lpass f) 16 + 2 ^ 256 * lpass f 16 = dval f 16 + 38 * f 16 := by
  have h := lout_dval f (f 16 * 38) 16
  rw [p16] at h
  rw [dval_congr (f := lpass f) (g := lout f (f 16 * 38)) (k := 16) fun i hi => by unfold lpass; rw [if_pos hi], show lpass f 16 = lcar f (f 16 * 38) 16 from rfl]
  omega
theorem lpass_low (f : Nat → Nat) : dval (lpass f) 16 < 2 ^ 256 := by
  rw [← p16]
  exact dval_lt fun i hi => by unfold lpass; rw [if_pos hi]; exact lout_lt _ _ _
theorem lpass_mod (f : Nat → Nat) : (dval (lpass f) 16 + 2 ^ 256 * lpass f 16) % fP = (dval f 16 + 2 ^ 256 * f 16) % fP := by rw [lpass_val, fold_P]
theorem lpass_three {f : Nat → Nat} (h : Tame f) : lpassN f 3 16 = 0 ∧ dval (lpassN f 3) 16 % fP = (dval f 16 + 2 ^ 256 * f 16) % fP := by
  have t1 := lpassN_tame h 1
  have m1 := lpass_mod f
  have m2 := lpass_mod (lpassN f 1)
  have m3 := lpass_mod (lpassN f 2)
  have v2 := lpass_val (lpassN f 1)
  have v3 := lpass_val (lpassN f 2)
  have l1 := lpass_low f
  have l2 := lpass_low (lpassN f 1)
  have l3 := lpass_low (lpassN f 2)
  have b1 := t1 16 (by omega)
  rw [show lpass f = lpassN f 1 from rfl] at m1 l1
  rw [show lpass (lpassN f 1) = lpassN f 2 from rfl] at m2 v2 l2
  rw [show lpass (lpassN f 2) = lpassN f 3 from rfl] at m3 v3 l3
  have hQ : 100 * 36028797018963968 < 2 ^ 256 := by decide +kernel
  have hz : lpassN f 3 16 = 0 := by
    generalize lpassN f 3 16 = c3 at *
    generalize lpassN f 2 16 = c2 at *
    generalize lpassN f 1 16 = c1 at *
    generalize (2 : Nat) ^ 256 = Q at *
    have h2 : c2 = 0 ∨ c2 = 1 := by
      rcases Nat.lt_or_ge c2 2 with h | h
      · omega
      · have : Q * 2 ≤ Q * c2 := Nat.mul_le_mul_left _ h
        omega
    rcases Nat.eq_zero_or_pos c3 with h3 | h3
    · exact h3
    · have : Q * 1 ≤ Q * c3 := Nat.mul_le_mul_left _ h3
      rcases h2 with rfl | rfl <;> omega
  refine ⟨hz, ?_⟩
  rw [hz, Nat.mul_zero, Nat.add_zero] at m3
  rw [m3, m2, m1]

/-! Subtraction with a borrow. -/
def dbor (f g : Nat → Nat) : Nat → Nat
  | 0 => 0
  | k + 1 => if f k < g k + dbor f g k then 1 else 0
def ddif (f g : Nat → Nat) (k : Nat) : Nat := if f k < g k + dbor f g k then f k + 65536 - g k - dbor f g k else f k - g k - dbor f g k
theorem dbor_le (f g : Nat → Nat) (k : Nat) : dbor f g k ≤ 1 := by
  cases k with
  | zero => simp [dbor]
  | succ k => unfold dbor; split <;> omega
theorem ddif_lt {f g : Nat → Nat} {k : Nat} (hf : f k < 65536) (hg : g k < 65536) : ddif f g k < 65536 := by
  have := dbor_le f g k
  unfold ddif
  split <;> omega
theorem ddif_dval {f g : Nat → Nat} {n : Nat} (hf : ∀ i < n, f i < 65536) (hg : ∀ i < n, g i < 65536) : dval (ddif f g) n + dval g n = dval f n + 65536 ^ n * dbor f g n := by
  induction n with
  | zero => simp [dval, dbor]
  | succ n ih =>
    have ih := ih (fun i hi => hf i (by omega)) (fun i hi => hg i (by omega))
    have h1 := hf n (by omega)
    have h2 := hg n (by omega)
    have hb := dbor_le f g n
    have h5 : ddif f g n + g n + dbor f g n = f n + 65536 * dbor f g (n + 1) := by
      rw [show dbor f g (n + 1) = if f n < g n + dbor f g n then 1 else 0 from rfl]
      unfold ddif
      split <;> omega
    simp only [dval]
    rw [Nat.pow_succ]
    generalize 65536 ^ n = P at *
    have h6 : P * (ddif f g n + g n + dbor f g n) = P * (f n + 65536 * dbor f g (n + 1)) := by rw [h5]
    rw [Nat.mul_add, Nat.mul_add, Nat.mul_add] at h6
    rw [Nat.mul_assoc]
    omega
/-- The modulus, digit by digit. -/
def pdig (i : Nat) : Nat := if i = 0 then 65517 else if i = 15 then 32767 else 65535
theorem pdig_lt (i : Nat) : pdig i < 65536 := by unfold pdig; split <;> (try split) <;> omega
theorem pdig_val : dval pdig 16 = fP := by decide +kernel
theorem less_P {v : Nat} (hv : v < 2 ^ 256) : (v < fP → dbor (dgt v) pdig 16 = 1) ∧ (fP ≤ v → dbor (dgt v) pdig 16 = 0 ∧ dval (ddif (dgt v) pdig) 16 = v - fP) := by
  have h := ddif_dval (f := dgt v) (g := pdig) (n := 16) (fun i _ => dgt_lt v i) (fun i _ => pdig_lt i)
  have hl := dval_lt (f := ddif (dgt v) pdig) (k := 16) (fun i _ => ddif_lt (dgt_lt v i) (pdig_lt i))
  rw [dval_dgt, pdig_val, p16, Nat.mod_eq_of_lt hv] at h
  rw [p16] at hl
  have hb := dbor_le (dgt v) pdig 16
  have hp := P_lt
  generalize dbor (dgt v) pdig 16 = b at *
  generalize (2 : Nat) ^ 256 = Q at *
  generalize fP = P at *
  have : b = 0 ∨ b = 1 := by omega
  rcases this with rfl | rfl
  · exact ⟨fun h => by omega, fun _ => ⟨rfl, by omega⟩⟩
  · exact ⟨fun _ => rfl, fun h => by omega⟩
end Go.Proofs.Ytodcjeaannfbnaa
namespace Go.Proofs.Ytodcjeaannfbnaa
open Go.ChangeShapes Go.WideShapes Go.ChangeAt Go.RowKit
set_option maxHeartbeats 1000000
set_option maxRecDepth 100000

/-- Digits as an array of cells. -/
def digA (L : List Nat) : Array Value := (digV L).toArray
theorem digA_size (L : List Nat) : (digA L).size = L.length := by simp [digA, digV]
theorem digA_at {L : List Nat} {i : Nat} (hi : i < L.length) : (digA L)[i]? = some (.int .i64 (L[i] : Nat)) := by simp [digA, digV, hi]
theorem digA_set (L : List Nat) (i d : Nat) : (digA L).setIfInBounds i (.int .i64 (d : Int)) = digA (L.set i d) := by simp [digA, digV]
theorem digA_made (n : Nat) : madeCells #[Value.int .i64 0] n = digA (List.replicate n 0) := by
  apply Array.ext_getElem?
  intro i
  by_cases hi : i < n
  · simp [madeCells, digA, digV, hi, Nat.mod_one]
  · rw [Array.getElem?_eq_none (by rw [size_madeCells]; omega), Array.getElem?_eq_none (by rw [digA_size]; simp; omega)]
/-- A block that is a row of digits. -/
structure DRow (w : World) (g : Nat) (L : List Nat) : Prop where
  row : Row w g L.length
  eq : rowAt w g = digA L
theorem DRow.cell {w : World} {g : Nat} {L : List Nat} (h : DRow w g L) {i : Nat} (hi : i < L.length) : w.cell? ⟨g, i, none⟩ = some (.int .i64 (L[i] : Nat)) := by
  rw [h.row.cell, h.eq, digA_at hi]
theorem DRow.set {w : World} {g : Nat} {L : List Nat} (h : DRow w g L) (i d : Nat) : DRow (w.setCell ⟨g, i, none⟩ (.int .i64 (d : Int))) g (L.set i d) := by
  refine ⟨by rw [List.length_set]; exact row_setCell.2 h.row, ?_⟩
  rw [rowAt_setCell_same, h.eq, digA_set]
theorem DRow.drew {w : World} {g : Nat} {L : List Nat} (h : DRow w g L) : DRow w.drew g L := ⟨h.row, h.eq⟩
theorem DRow.new (w : World) (L : List Nat) (t : TypeId) : DRow (w.alloc (.cells (digA L) t)) w.heap.size L :=
  ⟨(row_new rfl).2 (digA_size L), rowAt_new rfl⟩
theorem DRow.below {w w' : World} {g B : Nat} {L : List Nat} (h : DRow w g L) (hb : Below B w w') (hg : g < B) : DRow w' g L := ⟨row_below h.row hb hg, (rowAt_below hb hg).trans h.eq⟩
theorem run_make_dig (n : Nat) (hn : n ≤ 1000000000) (w : World) : (Instr.makeSlice 34 (.int .i64 (n : Int)) (.int .i64 (n : Int))).run Try.prog w = .ok (.slice (some ⟨w.heap.size, 0, none⟩) n n) (w.alloc (.cells (digA (List.replicate n 0)) 3)) := by
  rw [← digA_made]
  exact run_make_row' (P := Try.prog) 34 3 (.int .i64 0) 8 Try.underlying34 (by kernel_rfl) rfl .i64 .i64 n (by omega) (by omega) w
theorem DRow.ds {w : World} {g : Nat} {L : List Nat} (h : DRow w g L) (hs : Sm L) (hm : L.length ≤ 9223372036854775807) : Ds w (some ⟨g, 0, none⟩) L L.length := by
  refine ⟨?_, hs, Nat.le_refl _, hm⟩
  obtain ⟨cs, t, hh, hl⟩ := h.row
  have e : cs = digA L := by have := h.eq; simpa [rowAt, hh] using this
  have := Rd.of_blk (B := w.heap.size) hh h.row.lt
  rw [e] at this; exact this

theorem val_set (L : List Nat) : ∀ (i d : Nat), i < L.length → val (L.set i d) + 65536 ^ i * (L[i]?.getD 0) = val L + 65536 ^ i * d := by
  induction L with
  | nil => intro i d h; simp at h
  | cons x L ih =>
    intro i d h
    cases i with
    | zero => simp [val]; omega
    | succ i =>
      have h1 := ih i d (by simpa using h)
      simp only [List.set_cons_succ, val, List.getElem?_cons_succ, Nat.pow_succ]
      have h2 : ∀ y, 65536 ^ i * 65536 * y = 65536 * (65536 ^ i * y) := fun y => by rw [Nat.mul_comm (65536 ^ i) 65536, Nat.mul_assoc]
      rw [h2, h2]
      omega
theorem val_zeros (n : Nat) : val (List.replicate n 0) = 0 := by
  induction n with
  | zero => rfl
  | succ n ih => rw [List.replicate_succ]; simp only [val]; omega
theorem sm_zeros (n : Nat) : Sm (List.replicate n 0) := fun d h => by have := (List.mem_replicate.1 h).2; omega

theorem pow_two_16 (n : Nat) : 65536 ^ (n / 16) * 2 ^ (n % 16) = 2 ^ n := by
  rw [show (65536 : Nat) = 2 ^ 16 from rfl, ← Nat.pow_mul, ← Nat.pow_add]; congr 1; omega
theorem val_take_succ' (l : List Nat) (i : Nat) : val (l.take (i + 1)) = val (l.take i) + 65536 ^ i * (l[i]?.getD 0) := by
  rcases Nat.lt_or_ge i l.length with h | h
  · rw [List.take_succ_eq_append_getElem h, val_snoc, List.getElem?_eq_getElem h, List.length_take, Nat.min_eq_left (by omega)]; rfl
  · rw [List.take_of_length_le h, List.take_of_length_le (by omega), List.getElem?_eq_none h]; simp
theorem twoTo_dg (n : Nat) : Dg ((List.replicate (n / 16 + 1) 0).set (n / 16) (2 ^ (n % 16))) (2 ^ n) := by
  have hlt : 2 ^ (n % 16) < 65536 := Nat.lt_of_lt_of_le (Nat.pow_lt_pow_right (by omega) (show n % 16 < 16 by omega)) (by decide)
  have hv := val_set (List.replicate (n / 16 + 1) 0) (n / 16) (2 ^ (n % 16)) (by simp)
  rw [val_zeros, pow_two_16] at hv
  have h0 : (List.replicate (n / 16 + 1) 0)[n / 16]?.getD 0 = 0 := by simp
  rw [h0] at hv
  refine ⟨⟨(sm_zeros _).set _ hlt, by omega⟩, ?_⟩
  rw [List.getLast?_eq_getElem?]
  simp

/-! Bits -/
def bitK (n s : Nat) : Nat → Nat := fun i => if i < s then n / 2 ^ i % 2 else 0
def BitsR (N n : Nat) (w : World) (e : Ending) (w' : World) : Prop := ∃ g, e = .returned (.slice (some ⟨g, 0, none⟩) n n) ∧ Row w' g n ∧ rowAt w' g = arrK .i64 n (fun i => N / 2 ^ i % 2) ∧ w.heap.size ≤ g ∧ Below w.heap.size w w'
theorem bit_step (N s : Nat) (p : Nat) : upd (bitK N s) s (N / 65536 ^ (s / 16) % 65536 / 2 ^ (s % 16) % 2) p = bitK N (s + 1) p := by
  have e : N / 65536 ^ (s / 16) % 65536 / 2 ^ (s % 16) % 2 = N / 2 ^ s % 2 := by
    have h1 : N / 2 ^ s = N / 65536 ^ (s / 16) / 2 ^ (s % 16) := by rw [Nat.div_div_eq_div_mul, pow_two_16]
    rw [h1]
    generalize N / 65536 ^ (s / 16) = M
    have h2 : 2 ^ (s % 16) * 2 ∣ 65536 := by
      rw [← Nat.pow_succ, show (65536 : Nat) = 2 ^ 16 from rfl]
      exact Nat.pow_dvd_pow 2 (by omega)
    rw [← Nat.mod_mul_right_div_self, ← Nat.mod_mul_right_div_self, Nat.mod_mod_of_dvd _ h2]
  unfold upd bitK
  by_cases h : p = s
  · subst h; rw [if_pos rfl, if_pos (by omega), e]
  · rw [if_neg h]
    by_cases h2 : p < s
    · rw [if_pos h2, if_pos (by omega)]
    · rw [if_neg h2, if_neg (by omega)]
theorem num_ofInt (a : Nat) (ha : a < 2 ^ 63) : (BitVec.ofInt 64 (a : Int)).toNat = a := by
  rw [BitVec.ofInt_natCast, BitVec.toNat_ofNat]; exact Nat.mod_eq_of_lt (by omega)
theorem num_and1 {a : Nat} (ha : a < 2 ^ 63) : bits .and .i64 (a : Int) 1 = ((a % 2 : Nat) : Int) := by
  have hx : a &&& 1 < 2 ^ 63 := Nat.and_lt_two_pow _ (by omega)
  show IntKind.i64.wrap ((BitVec.ofInt 64 (a : Int) &&& BitVec.ofInt 64 ((1 : Nat) : Int)).toNat : Int) = _
  rw [BitVec.toNat_and, num_ofInt a ha, num_ofInt 1 (by omega), IntKind.wrap_i64]
  rw [Nat.and_one_is_mod] at *
  omega

theorem ref_TwoTo (n : Nat) (w : World) (hn : n ≤ 1000000) :
    Calls Try.prog 78 #[.int .i64 n] w (RetN (2 ^ n) w) := by
  have hmk := run_make_dig (n / 16 + 1) (by omega)
  have hR := DRow.new w (List.replicate (n / 16 + 1) 0) 3
  have hL : ∀ L, Below w.heap.size w (w.alloc (.cells (digA L) 3)) := fun L => by go_grown
  obtain ⟨q, hq⟩ : ∃ q, q = n / 16 := ⟨_, rfl⟩
  obtain ⟨r, hr⟩ : ∃ r, r = n % 16 := ⟨_, rfl⟩
  have hqi : (n : Int) / 16 = q := by omega
  have hri : (n : Int) % 16 = r := by omega
  have hdg := twoTo_dg n
  rw [← hq, ← hr] at hdg
  rw [← hq] at hmk hR
  have hHdg := Lib.hid hdg
  have hr16 : r < 16 := by omega
  have hqn : q ≤ n := by omega
  have h2 : (2 : Int) ^ r < 65536 := by
    have : 2 ^ r < 2 ^ 16 := Nat.pow_lt_pow_right (by omega) hr16
    have h3 : ((2 ^ r : Nat) : Int) < 65536 := by omega
    simpa using h3
  have h2' : (0 : Int) < 2 ^ r := Int.pow_pos (by omega)
  have hc := hR.cell (i := q) (by simp)
  have hf := hR.row.frozen q
  rw [List.getElem_replicate] at hc
  have hq0 : (0 : Int) ≤ q := by omega
  have hq1 : (q : Int) < (q : Int) + 1 := by omega
  push_cast at hmk
  clear hq hr hdg
  go_enter Try.func78, Try.ntmps78
  go_wp2
  go_ret
  rw [show (2 : Int) ^ r = ((2 ^ r : Nat) : Int) by simp, digA_set]
  have hN := DRow.new w ((List.replicate (q + 1) 0).set q (2 ^ r)) 3
  have hl : ((List.replicate (q + 1) 0).set q (2 ^ r)).length = q + 1 := by simp
  have hDs := hN.ds hHdg.out.sm (by omega)
  rw [hl] at hDs
  exact ⟨.slice (some ⟨w.heap.size, 0, none⟩) (q + 1) (q + 1), rfl, ⟨some ⟨w.heap.size, 0, none⟩, _, q + 1, by rw [hl], hDs, hHdg.out⟩, hL _⟩

theorem ref_Bits (A : Option Addr) (l : List Nat) (c n : Nat) (w : World) (h : Ds w A l c) (hn : n ≤ 1000000) :
    Calls Try.prog 92 #[.slice A l.length c, .int .i64 n] w (BitsR (val l) n w) := by
  have hmk := run_make_row' (P := Try.prog) 34 3 (.int .i64 0) 8 Try.underlying34 (by kernel_rfl) rfl .i64 .i64 n (by omega) (by omega)
  rw [made_arrK] at hmk
  have hR0 : Row (w.alloc (Obj.cells (arrK .i64 n fun _ => 0) 3)) w.heap.size n := (row_new rfl).2 (arrK_size _ _ _)
  have hr0 : rowAt (w.alloc (Obj.cells (arrK .i64 n fun _ => 0) 3)) w.heap.size = arrK .i64 n (bitK (val l) 0) := by rw [rowAt_new rfl]; exact arrK_congr fun q _ => by simp [bitK]
  have hL0 : Below w.heap.size w (w.alloc (Obj.cells (arrK .i64 n fun _ => 0) 3)) := by go_grown
  go_enter Try.func92, Try.ntmps92
  go_wp2
  generalize w.alloc (Obj.cells (arrK .i64 n fun _ => 0) 3) = W0 at *
  go_loopw [11] (fun i wr => ∃ s : Nat, i = .int .i64 s ∧ s ≤ n ∧ Row wr w.heap.size n ∧ rowAt wr w.heap.size = arrK .i64 n (bitK (val l) s) ∧ Below w.heap.size w wr) (fun i _ => n - (intOf i).toNat)
  case atStart => exact ⟨0, rfl, by omega, hR0, hr0, hL0⟩
  case round =>
    obtain ⟨s, rfl, hs, hR, hr, hL⟩ := hrel
    by_cases hlt : s < n
    · obtain ⟨q, hq⟩ : ∃ q, q = s / 16 := ⟨_, rfl⟩
      obtain ⟨r, hr'⟩ : ∃ r, r = s % 16 := ⟨_, rfl⟩
      have hqi : (s : Int) / 16 = q := by omega
      have hri : (s : Int) % 16 = r := by omega
      have hbs := bit_step (val l) s
      have hdz := digZ_nat l q
      rw [Dv.at_ (Dv.mk' h.sm)] at hdz
      rw [← hq, ← hr', ← hdz] at hbs
      have hD := h.below hL (Nat.le_refl _)
      have hf := hR.frozen s
      have hc := hR.cell s
      rw [hr, arrK_at hlt] at hc
      have hdl := digZ_lt h.sm (q : Int)
      have hr16 : r < 16 := by omega
      have hqs : q ≤ s := by omega
      have hHr := Lib.hid hr
      have hHbs := Lib.hid hbs
      clear hr hq hr' hdz hbs
      have hcon := ref_digit A l c (q : Int) wr hD
      have hdv : digZ l q / 2 ^ r ≤ digZ l q := Nat.div_le_self _ _
      have h1 : bits .and .i64 ((digZ l q : Int) / 2 ^ r) 1 = ((digZ l q / 2 ^ r % 2 : Nat) : Int) := by
        rw [show ((digZ l q : Int) / 2 ^ r) = ((digZ l q / 2 ^ r : Nat) : Int) by simp, num_and1 (by omega)]
      have hHcon := Lib.hid hcon
      clear hcon
      go_wp2_with (go_at_call 145; refine hHcon.out.mono ?_; rintro e w' ⟨rfl, rfl⟩)
      go_round
      case rel => exact ⟨s + 1, by go_num, by omega, row_setCell.2 hR, by rw [rowAt_setCell_same, hHr.out, show ((digZ l q : Int) / 2 ^ r % 2) = ((digZ l q / 2 ^ r % 2 : Nat) : Int) by simp, arrK_set]; exact arrK_congr fun p _ => hHbs.out p, hL.setCell (Nat.le_refl _) _⟩
      case measure => simp [intOf]; omega
    · obtain rfl : s = n := by omega
      go_wp2
      go_ret
      exact ⟨_, rfl, hR, by rw [hr]; exact arrK_congr fun p hp => by simp [bitK, hp], Nat.le_refl _, hL⟩

/-! Times -/
theorem times_step {L : List Nat} {P cy x V m : Nat} {i : Nat} (hi : i < L.length) (hP : P = 65536 ^ i) (hx : x = cy + (L[i]?.getD 0 + m)) (hv : val L + P * cy = V) :
    val (L.set i (x % 65536)) + P * 65536 * (x / 65536) = V + P * m := by
  have h1 := val_set L i (x % 65536) hi
  rw [← hP] at h1
  have h2 : P * (x % 65536) + P * 65536 * (x / 65536) = P * x := by rw [Nat.mul_assoc, ← Nat.mul_add, Nat.mod_add_div]
  have h3 : P * x = P * cy + P * (L[i]?.getD 0) + P * m := by rw [hx, Nat.mul_add, Nat.mul_add]; omega
  omega
theorem times_in {k : List Nat} {V i j a b : Nat} (hb : k[j]?.getD 0 = b) : V + 65536 ^ i * a * val (k.take j) + 65536 ^ (i + j) * (a * b) = V + 65536 ^ i * a * val (k.take (j + 1)) := by
  rw [val_take_succ', hb, Nat.pow_add, Nat.mul_add, Nat.add_assoc]
  congr 2
  simp only [Nat.mul_assoc]
  congr 1
  rw [← Nat.mul_assoc, Nat.mul_comm (65536 ^ j) a, Nat.mul_assoc]
theorem zeros_set {L : List Nat} {p q d n : Nat} (h : ∀ j, n ≤ j → L[j]?.getD 0 = 0) (hp : p < n) (hq : n ≤ q) : (L.set p d)[q]?.getD 0 = 0 := by
  rw [List.getElem?_set_ne (by omega)]; exact h q hq
theorem times_round {l k L' : List Nat} {i cy : Nat} (hi : i + k.length < L'.length) (hz : L'[i + k.length]?.getD 0 = 0) (hv : val L' + 65536 ^ (i + k.length) * cy = val (l.take i) * val k + 65536 ^ i * (l[i]?.getD 0) * val k) :
    val (L'.set (i + k.length) cy) = val (l.take (i + 1)) * val k := by
  have h1 := val_set L' (i + k.length) cy hi
  rw [hz] at h1
  rw [val_take_succ', Nat.add_mul]
  omega

theorem ref_Times (A : Option Addr) (l : List Nat) (c : Nat) (B : Option Addr) (k : List Nat) (d : Nat) (w : World) (ha : Ds w A l c) (hb : Ds w B k d) (hl : l.length ≤ 1000000) (hk : k.length ≤ 1000000) :
    Calls Try.prog 73 #[.slice A l.length c, .slice B k.length d] w (RetN (val l * val k) w) := by
  have hmk := run_make_dig (l.length + k.length) (by omega)
  push_cast at hmk
  have hR := DRow.new w (List.replicate (l.length + k.length) 0) 3
  have hL : Below w.heap.size w (w.alloc (.cells (digA (List.replicate (l.length + k.length) 0)) 3)) := by go_grown
  go_enter Try.func73, Try.ntmps73
  go_wp2
  generalize w.alloc (.cells (digA (List.replicate (l.length + k.length) 0)) 3) = W0 at *
  go_loopw [17] (fun i wr => ∃ (i' : Nat) (L : List Nat), i = .int .i64 i' ∧ i' ≤ l.length ∧ L.length ≤ l.length + k.length ∧ l.length + k.length ≤ L.length ∧ DRow wr w.heap.size L ∧ Below w.heap.size w wr ∧
    Hid (Sm L ∧ val L = val (l.take i') * val k ∧ ∀ j, i' + k.length ≤ j → L[j]?.getD 0 = 0)) (fun i _ => l.length - (intOf i).toNat)
  case atStart => exact ⟨0, _, rfl, by omega, by simp, by simp, hR, hL, sm_zeros _, by rw [val_zeros]; simp [val], fun j _ => by simp [List.getElem?_replicate]; split <;> rfl⟩
  case round =>
    obtain ⟨i, L, rfl, hi, hL1, hL2, hR, hL, hH⟩ := hrel
    by_cases hlt : i < l.length
    · go_wp2
      obtain ⟨wo, rfl⟩ : ∃ wo : World, wo = wr := ⟨_, rfl⟩
      go_loopw [7, 22] (fun y j wr => ∃ (j' cy : Nat) (L : List Nat), j = .int .i64 j' ∧ j' ≤ k.length ∧ y = .int .i64 cy ∧ cy < 65536 ∧ L.length ≤ l.length + k.length ∧ l.length + k.length ≤ L.length ∧ DRow wr w.heap.size L ∧ Below w.heap.size w wr ∧
        Hid (Sm L ∧ val L + 65536 ^ (i + j') * cy = val (l.take i) * val k + 65536 ^ i * (l[i]?.getD 0) * val (k.take j') ∧ ∀ q, i + k.length ≤ q → L[q]?.getD 0 = 0)) (fun _ j _ => k.length - (intOf j).toNat)
      case atStart => exact ⟨0, 0, L, rfl, by omega, rfl, by omega, hL1, hL2, hR, hL, hH.out.1, by rw [hH.out.2.1]; simp [val], hH.out.2.2⟩
      case round =>
        clear hH hR hL hL1 hL2 L
        obtain ⟨j, cy, L, rfl, hj, rfl, hcy, hL1, hL2, hR, hL, hH⟩ := hrel
        have hf : ∀ q, wr.frozen? ⟨w.heap.size, q, none⟩ = false := fun q => hR.row.frozen q
        by_cases hjk : j < k.length
        · obtain ⟨ad, rfl, hbl, hca⟩ := digV_at (ha.below hL (Nat.le_refl _)).rd hlt
          obtain ⟨bd, rfl, hbl2, hcb⟩ := digV_at (hb.below hL (Nat.le_refl _)).rd hjk
          have hcx := hR.cell (i := i + j) (by omega)
          have hfx := hf (i + j)
          have ha1 := ha.sm l[i] (List.getElem_mem _)
          have hb1 := hb.sm k[j] (List.getElem_mem _)
          have hx1 := hH.out.1 L[i + j] (List.getElem_mem _)
          obtain ⟨m, hm⟩ : ∃ m, m = l[i] * k[j] := ⟨_, rfl⟩
          have hm1 : m ≤ 65535 * 65535 := hm ▸ Nat.mul_le_mul (by omega) (by omega)
          have hmi : ((l[i] : Nat) : Int) * ((k[j] : Nat) : Int) = (m : Int) := by rw [hm]; simp
          have hst := times_step (i := i + j) (x := cy + (L[i + j] + m)) (m := m) (by omega) rfl (by rw [List.getElem?_eq_getElem (by omega)]; rfl) hH.out.2.1
          rw [show l[i]?.getD 0 = l[i] by rw [List.getElem?_eq_getElem hlt]; rfl, hm, times_in (by rw [List.getElem?_eq_getElem hjk]; rfl), ← hm] at hst
          have hst2 : Hid (Sm (L.set (i + j) ((cy + (L[i + j] + m)) % 65536)) ∧ val (L.set (i + j) ((cy + (L[i + j] + m)) % 65536)) + 65536 ^ (i + (j + 1)) * ((cy + (L[i + j] + m)) / 65536) = val (l.take i) * val k + 65536 ^ i * (l[i]?.getD 0) * val (k.take (j + 1)) ∧ ∀ q, i + k.length ≤ q → (L.set (i + j) ((cy + (L[i + j] + m)) % 65536))[q]?.getD 0 = 0) :=
            ⟨hH.out.1.set _ (Nat.mod_lt _ (by omega)), by rw [show i + (j + 1) = (i + j) + 1 by omega, Nat.pow_succ, hst, List.getElem?_eq_getElem hlt]; rfl, fun q hq => zeros_set hH.out.2.2 (by omega) hq⟩
          have hw1 : IntKind.i64.wrap ((i : Int) + j) = (i : Int) + j := by rw [IntKind.wrap_i64]; omega
          have hw2 : IntKind.i64.wrap (m : Int) = m := by rw [IntKind.wrap_i64]; omega
          have hs0 : (0 : Int) ≤ (i : Int) + j := by omega
          have hs1 : ((i : Int) + j).toNat = i + j := by omega
          have hs2 : (i : Int) + j < (l.length : Int) + k.length := by omega
          clear hst hm hf hH
          generalize L[i + j] = x at *
          generalize l[i] = a at *
          generalize k[j] = b at *
          have hw3 : IntKind.i64.wrap ((x : Int) + m) = (x : Int) + m := by rw [IntKind.wrap_i64]; omega
          have hw4 : IntKind.i64.wrap ((cy : Int) + ((x : Int) + m)) = (cy : Int) + ((x : Int) + m) := by rw [IntKind.wrap_i64]; omega
          have hR2 := hR.set (i + j) ((cy + (x + m)) % 65536)
          have hHR := Lib.hid hR2
          clear hR2
          go_wp2
          go_region
          go_wp2
          go_round
          case rel => exact ⟨j + 1, (cy + (x + m)) / 65536, L.set (i + j) ((cy + (x + m)) % 65536), by go_num, by omega, by go_num, by omega, by simp; omega, by simp; omega, hHR.out.drew, (hL.setCell (Nat.le_refl _) _).drew, hst2⟩
          case measure => simp [intOf]; omega
        · obtain rfl : j = k.length := by omega
          have hz0 := hH.out.2.2 (i + k.length) (by omega)
          have hcx := hR.cell (i := i + k.length) (by omega)
          have hz : L[i + k.length] = 0 := by rw [List.getElem?_eq_getElem (by omega)] at hz0; exact hz0
          rw [hz] at hcx
          have hfx := hf (i + k.length)
          clear hf hz hz0
          go_wp2
          go_round
          case rel =>
            refine ⟨i + 1, L.set (i + k.length) cy, by go_num, by omega, by simp; omega, by simp; omega, hR.set _ _, hL.setCell (Nat.le_refl _) _, hH.out.1.set _ hcy, ?_, fun q hq => ?_⟩
            · have h1 := hH.out.2.1
              rw [List.take_length] at h1
              exact times_round (by omega) (hH.out.2.2 _ (by omega)) h1
            · rw [List.getElem?_set_ne (by omega)]; exact hH.out.2.2 q (by omega)
          case measure => simp [intOf]; omega
    · obtain rfl : i = l.length := by omega
      have hn : L.length = l.length + k.length := by omega
      have hDs := hR.ds hH.out.1 (by omega)
      rw [hn] at hDs
      have hcon := ref_trim _ L _ wr hDs
      rw [hn] at hcon
      have hHcon := Lib.hid hcon
      clear hcon
      go_wp2_with fail
      refine hHcon.out.mono ?_
      rintro e w' ⟨q, hq, rfl, hg, rfl⟩
      go_wp2
      go_ret
      have hv := hH.out.2.1
      rw [List.take_length] at hv
      exact ⟨_, rfl, hv ▸ isN_trim hDs hq hg, hL⟩
end Go.Proofs.Ytodcjeaannfbnaa
namespace Go.Proofs.Ytodcjeaannfbnaa
open Go.ChangeShapes Go.WideShapes Go.ChangeAt Go.RowKit

/-- No number of ours is as great. -/
def bigK : Nat := 10000
def big : Nat := 65536 ^ bigK
theorem lt_big {n k : Nat} (h : n < 2 ^ k) (hk : k ≤ 160000) : n < big := by
  refine Nat.lt_of_lt_of_le h ?_
  unfold big
  rw [show (65536 : Nat) = 2 ^ 16 from rfl, ← Nat.pow_mul]
  exact Nat.pow_le_pow_right (by omega) (by unfold bigK; omega)

theorem wide_big {a b m : Nat} (ha : a < 2 ^ m) (hb : b < 2 ^ m) (h : m + m ≤ 160000) : a + b * 2 ^ m < big := by
  refine lt_big (k := m + m) ?_ h
  have h1 : (b + 1) * 2 ^ m ≤ 2 ^ m * 2 ^ m := Nat.mul_le_mul_right _ hb
  rw [Nat.add_mul, Nat.one_mul] at h1
  rw [Nat.pow_add]
  omega
theorem mul_big {a b m n : Nat} (ha : a < 2 ^ m) (hb : b < 2 ^ n) (h : m + n ≤ 160000) : a * b < big :=
  lt_big (k := m + n) (by rw [Nat.pow_add]; exact Nat.mul_lt_mul'' ha hb) h
theorem add_big {a b k : Nat} (ha : a < 2 ^ k) (hb : b < 2 ^ k) (h : k + 1 ≤ 160000) : a + b < big :=
  lt_big (k := k + 1) (by rw [Nat.pow_succ]; omega) h

/-- A slice of digits of n, whatever stands at its end. -/
def IsV (w : World) (v : Value) (n : Nat) : Prop := ∃ A l c, v = .slice A l.length c ∧ Ds w A l c ∧ val l = n ∧ l.length ≤ 1000000

section
variable {w w' : World} {v : Value} {n : Nat}
theorem IsN.toV (h : IsN w v n) (hn : n < big) : IsV w v n := by
  obtain ⟨A, l, c, e, hD, hG⟩ := h
  exact ⟨A, l, c, e, hD, hG.val, Nat.le_trans (hG.len hn) (by unfold bigK; omega)⟩
theorem IsV.step (hb : Below w.heap.size w w') (h : IsV w v n) : IsV w' v n := by
  obtain ⟨A, l, c, e, hD, h1, h2⟩ := h
  exact ⟨A, l, c, e, hD.below hb (Nat.le_refl _), h1, h2⟩
theorem IsN.step (hb : Below w.heap.size w w') (h : IsN w v n) : IsN w' v n := by
  obtain ⟨A, l, c, e, hD, h1⟩ := h
  exact ⟨A, l, c, e, hD.below hb (Nat.le_refl _), h1⟩
theorem IsV.alloc (h : IsV w v n) (o : Obj) : IsV (w.alloc o) v n := h.step (below_alloc w o)
theorem IsN.alloc (h : IsN w v n) (o : Obj) : IsN (w.alloc o) v n := h.step (below_alloc w o)
theorem IsV.drew (h : IsV w v n) : IsV w.drew v n := h.step (Below.refl _ _).drew
theorem IsN.drew (h : IsN w v n) : IsN w.drew v n := h.step (Below.refl _ _).drew
theorem IsN.nil (w : World) : IsN w (.slice none 0 0) 0 := ⟨none, [], 0, rfl, ⟨Rd.nil, Sm.nil, by simp, by omega⟩, Dg.nil⟩
/-- '[]int{d}'. -/
theorem IsV.lit (w : World) (t : TypeId) {d : Nat} (hd : d < 65536) : IsV (w.alloc (.cells #[.int .i64 (d : Int)] t)) (.slice (some ⟨w.heap.size, 0, none⟩) 1 1) d :=
  ⟨some ⟨w.heap.size, 0, none⟩, [d], 1, rfl, ⟨Rd.of_blk (cs := #[.int .i64 (d : Int)]) (push_new _ _) (by simp), Sm.one hd, by simp, by omega⟩, val_one d, by simp⟩
theorem IsV.lit256 (w : World) (t : TypeId) : IsV (w.alloc (.cells #[.int .i64 256] t)) (.slice (some ⟨w.heap.size, 0, none⟩) 1 1) 256 := IsV.lit w t (d := 256) (by omega)
theorem IsV.lit' (w : World) (t : TypeId) {d g : Nat} (hg : g = w.heap.size) (hd : d < 65536) : IsV (w.alloc (.cells #[.int .i64 (d : Int)] t)) (.slice (some ⟨g, 0, none⟩) 1 1) d := by subst hg; exact IsV.lit w t hd
theorem IsV.lit256' (w : World) (t : TypeId) {g : Nat} (hg : g = w.heap.size) : IsV (w.alloc (.cells #[.int .i64 256] t)) (.slice (some ⟨g, 0, none⟩) 1 1) 256 := by subst hg; exact IsV.lit256 w t
theorem IsN.form (h : IsN w v n) : ∃ A m c, v = .slice A m c ∧ m ≤ c ∧ c ≤ 9223372036854775807 ∧ (m = 0 ↔ n = 0) := by
  obtain ⟨A, l, c, rfl, hD, hG⟩ := h
  refine ⟨A, l.length, c, rfl, hD.le, hD.mx, fun h0 => ?_, fun h0 => ?_⟩
  · rw [← hG.val, List.eq_nil_of_length_eq_zero h0]; rfl
  · subst h0; rw [hG.zero]; rfl

theorem plusN {u v : Value} {m n : Nat} (w : World) (hu : IsV w u m) (hv : IsV w v n) : Calls Try.prog 69 #[u, v] w (RetN (m + n) w) := by
  obtain ⟨A, l, c, rfl, hD, rfl, hl⟩ := hu
  obtain ⟨B, k, d, rfl, hE, rfl, hk⟩ := hv
  exact ref_Plus A l c B k d w hD hE hl hk
theorem timesN {u v : Value} {m n : Nat} (w : World) (hu : IsV w u m) (hv : IsV w v n) : Calls Try.prog 73 #[u, v] w (RetN (m * n) w) := by
  obtain ⟨A, l, c, rfl, hD, rfl, hl⟩ := hu
  obtain ⟨B, k, d, rfl, hE, rfl, hk⟩ := hv
  exact ref_Times A l c B k d w hD hE hl hk
theorem toNumN {u : Value} {m : Nat} (w : World) (hu : IsV w u m) : Calls Try.prog 16 #[u] w fun e w' => e = .returned (numV m) ∧ Below w.heap.size w w' := by
  obtain ⟨A, l, c, rfl, hD, rfl, hl⟩ := hu
  exact ref_ToNum A l c w hD
theorem bitsN {u : Value} {m : Nat} (n : Nat) (w : World) (hn : n ≤ 1000000) (hu : IsV w u m) : Calls Try.prog 92 #[u, .int .i64 n] w (BitsR m n w) := by
  obtain ⟨A, l, c, rfl, hD, rfl, hl⟩ := hu
  exact ref_Bits A l c n w hD hn
end
end Go.Proofs.Ytodcjeaannfbnaa
namespace Go.Proofs.Ytodcjeaannfbnaa
open Go.ChangeShapes Go.WideShapes Go.ChangeAt Go.RowKit
set_option maxHeartbeats 2000000
set_option maxRecDepth 100000
theorem load_fe {w : World} {dst : Option Tmp} {x : Operand} {tt : TypeId} {pos : String} {af : Array Edge} {gd : Option (Nat × Bool)} {a : Act} {K : Act → World → Prop} {Q : Exit → Act → World → Prop}
    (hv : IsHead (a.eval x)) (h : Row w (blkOf (a.eval x)) 16) : Oper.wp Try.prog ⟨dst, .load 26 x, tt, pos, af, gd⟩ a w K Q ↔ K (a.put dst (.agg (rowAt w (blkOf (a.eval x))))) w :=
  wp_load_whole Try.underlying26 rfl (by kernel_rfl) hv h
theorem store_fe {w : World} {dst : Option Tmp} {x y : Operand} {tt : TypeId} {pos : String} {af : Array Edge} {gd : Option (Nat × Bool)} {a : Act} {K : Act → World → Prop} {Q : Exit → Act → World → Prop}
    (hv : IsHead (a.eval x)) (h : Row w (blkOf (a.eval x)) 16) (hx : IsAgg (a.eval y) 16) : Oper.wp Try.prog ⟨dst, .store 26 x y, tt, pos, af, gd⟩ a w K Q ↔ K (a.put dst undef) (w.setRow (blkOf (a.eval x)) (cellsV (a.eval y))) :=
  wp_store_whole (by kernel_rfl) hv h hx
theorem execl_fe {w : World} {dst : Option Tmp} {x : Operand} {tt : TypeId} {pos : String} {af : Array Edge} {gd : Option (Nat × Bool)} {ρ : Operand → Value}
    (hv : IsHead (ρ x)) (h : Row w (blkOf (ρ x)) 16) : (execOp ρ ⟨dst, .load 26 x, tt, pos, af, gd⟩).run Try.prog w = .ok (.value (.agg (rowAt w (blkOf (ρ x))))) w :=
  exec_load_whole Try.underlying26 rfl (by kernel_rfl) hv h
theorem execs_fe {w : World} {dst : Option Tmp} {x y : Operand} {tt : TypeId} {pos : String} {af : Array Edge} {gd : Option (Nat × Bool)} {ρ : Operand → Value}
    (hv : IsHead (ρ x)) (h : Row w (blkOf (ρ x)) 16) (hx : IsAgg (ρ y) 16) : (execOp ρ ⟨dst, .store 26 x y, tt, pos, af, gd⟩).run Try.prog w = .ok .skip (w.setRow (blkOf (ρ x)) (cellsV (ρ y))) :=
  exec_store_whole (by kernel_rfl) hv h hx
theorem load_t17 {w : World} {dst : Option Tmp} {x : Operand} {tt : TypeId} {pos : String} {af : Array Edge} {gd : Option (Nat × Bool)} {a : Act} {K : Act → World → Prop} {Q : Exit → Act → World → Prop}
    (hv : IsHead (a.eval x)) (h : Row w (blkOf (a.eval x)) 17) : Oper.wp Try.prog ⟨dst, .load 114 x, tt, pos, af, gd⟩ a w K Q ↔ K (a.put dst (.agg (rowAt w (blkOf (a.eval x))))) w :=
  wp_load_whole Try.underlying114 rfl (by kernel_rfl) hv h
theorem store_t17 {w : World} {dst : Option Tmp} {x y : Operand} {tt : TypeId} {pos : String} {af : Array Edge} {gd : Option (Nat × Bool)} {a : Act} {K : Act → World → Prop} {Q : Exit → Act → World → Prop}
    (hv : IsHead (a.eval x)) (h : Row w (blkOf (a.eval x)) 17) (hx : IsAgg (a.eval y) 17) : Oper.wp Try.prog ⟨dst, .store 114 x y, tt, pos, af, gd⟩ a w K Q ↔ K (a.put dst undef) (w.setRow (blkOf (a.eval x)) (cellsV (a.eval y))) :=
  wp_store_whole (by kernel_rfl) hv h hx
theorem execl_t17 {w : World} {dst : Option Tmp} {x : Operand} {tt : TypeId} {pos : String} {af : Array Edge} {gd : Option (Nat × Bool)} {ρ : Operand → Value}
    (hv : IsHead (ρ x)) (h : Row w (blkOf (ρ x)) 17) : (execOp ρ ⟨dst, .load 114 x, tt, pos, af, gd⟩).run Try.prog w = .ok (.value (.agg (rowAt w (blkOf (ρ x))))) w :=
  exec_load_whole Try.underlying114 rfl (by kernel_rfl) hv h
theorem execs_t17 {w : World} {dst : Option Tmp} {x y : Operand} {tt : TypeId} {pos : String} {af : Array Edge} {gd : Option (Nat × Bool)} {ρ : Operand → Value}
    (hv : IsHead (ρ x)) (h : Row w (blkOf (ρ x)) 17) (hx : IsAgg (ρ y) 17) : (execOp ρ ⟨dst, .store 114 x y, tt, pos, af, gd⟩).run Try.prog w = .ok .skip (w.setRow (blkOf (ρ x)) (cellsV (ρ y))) :=
  exec_store_whole (by kernel_rfl) hv h hx

theorem zeroFe : #[Value.int IntKind.i64 0, Value.int IntKind.i64 0, Value.int IntKind.i64 0, Value.int IntKind.i64 0, Value.int IntKind.i64 0, Value.int IntKind.i64 0, Value.int IntKind.i64 0, Value.int IntKind.i64 0, Value.int IntKind.i64 0, Value.int IntKind.i64 0, Value.int IntKind.i64 0, Value.int IntKind.i64 0, Value.int IntKind.i64 0, Value.int IntKind.i64 0, Value.int IntKind.i64 0, Value.int IntKind.i64 0] = arrK .i64 16 fun _ => 0 := by kernel_rfl
theorem zeroT : #[Value.int IntKind.i64 0, Value.int IntKind.i64 0, Value.int IntKind.i64 0, Value.int IntKind.i64 0, Value.int IntKind.i64 0, Value.int IntKind.i64 0, Value.int IntKind.i64 0, Value.int IntKind.i64 0, Value.int IntKind.i64 0, Value.int IntKind.i64 0, Value.int IntKind.i64 0, Value.int IntKind.i64 0, Value.int IntKind.i64 0, Value.int IntKind.i64 0, Value.int IntKind.i64 0, Value.int IntKind.i64 0, Value.int IntKind.i64 0] = arrK .i64 17 fun _ => 0 := by kernel_rfl
def feV (n : Nat) : Value := .agg (arrK .i64 16 (dgt n))
theorem num_andM {a : Nat} (ha : a < 9223372036854775808) : bits .and .i64 (a : Int) 65535 = ((a % 65536 : Nat) : Int) := by
  have hx : a &&& 65535 < 2 ^ 63 := Nat.lt_of_le_of_lt Nat.and_le_left ha
  show IntKind.i64.wrap ((BitVec.ofInt 64 (a : Int) &&& BitVec.ofInt 64 ((65535 : Nat) : Int)).toNat : Int) = _
  rw [BitVec.toNat_and, num_ofInt a ha, num_ofInt 65535 (by omega), IntKind.wrap_i64]
  rw [show (65535 : Nat) = 2 ^ 16 - 1 from rfl, Nat.and_two_pow_sub_one_eq_mod] at *
  omega
/-- The digits in the middle of a pass. -/
def midF (f : Nat → Nat) (c s j : Nat) : Nat := if j < s then lout f c j else if j = 16 then 0 else f j
/-- The number in a block of sixteen digits. -/
def feOfW (w : World) (g : Nat) : Nat := dval (fun i => (intOf ((rowAt w g)[i]?.getD undef)).toNat) 16
theorem feOfW_at {w : World} {g n : Nat} (h : At w g .i64 16 (dgt n)) (hn : n < 2 ^ 256) : feOfW w g = n := by
  unfold feOfW
  rw [h.eq, dval_congr (g := dgt n) fun i hi => by rw [arrK_at hi]; simp [intOf], dval_dgt, p16]
  exact Nat.mod_eq_of_lt hn
def mixD (f : Nat → Nat) (s j : Nat) : Nat := if j < s then f j else 0
theorem mixD_step (f : Nat → Nat) (s p : Nat) : upd (mixD f s) s (f s) p = mixD f (s + 1) p := by
  unfold upd mixD
  by_cases h : p = s
  · subst h; simp
  · by_cases h2 : p < s
    · simp [h, h2, show p < s + 1 by omega]
    · simp [h, h2, show ¬ p < s + 1 by omega]
theorem midF_step (f : Nat → Nat) (c s p : Nat) : upd (midF f c s) s (lout f c s) p = midF f c (s + 1) p := by
  unfold upd midF
  by_cases h : p = s
  · subst h; simp
  · by_cases h2 : p < s
    · simp [h, h2, show p < s + 1 by omega]
    · simp [h, h2, show ¬ p < s + 1 by omega]
theorem midF_start (f : Nat → Nat) (c p : Nat) : upd f 16 0 p = midF f c 0 p := by
  unfold upd midF
  by_cases h : p = 16
  · subst h; simp
  · simp [h]
theorem midF_end (f : Nat → Nat) (p : Nat) (hp : p < 17) : upd (midF f (f 16 * 38) 16) 16 (lcar f (f 16 * 38) 16) p = lpass f p := by
  unfold upd midF lpass
  by_cases h : p = 16
  · subst h; rw [if_pos rfl, if_neg (by omega)]
  · rw [if_neg h, if_pos (by omega), if_pos (by omega)]
attribute [local go_sem ↓] load_fe store_fe execl_fe execs_fe load_t17 store_t17 execl_t17 execs_t17
attribute [local go_sem] isHead_mk blkOf_mk isAgg_mk cellsV_mk row_drew rowAt_drew row_new_cells row_old rowAt_new rowAt_old setRow_new zeroFe zeroT
theorem ref_least (f : Nat → Nat) (w : World) (hf : Tame f) : Calls Try.prog 95 #[.agg (arrK .i64 17 f)] w fun e w' => e = .returned (feV ((dval f 16 + 2 ^ 256 * f 16) % fP)) ∧ Below w.heap.size w w' := by
  have hfin := Lib.hid (lpass_three hf)
  have htm := Lib.hid (lpassN_tame hf)
  obtain ⟨V, hV⟩ : ∃ V, (dval f 16 + 2 ^ 256 * f 16) % fP = V := ⟨_, rfl⟩
  rw [hV] at hfin ⊢
  clear hV hf
  have hc0 := arrK_cells .i64 16 fun _ => 0
  have hL0 : Below w.heap.size w ((w.alloc (Obj.cells (arrK .i64 17 f) 114)).alloc (Obj.cells (arrK .i64 16 fun _ => 0) 26)) := by go_grown
  have hT0 : At ((w.alloc (Obj.cells (arrK .i64 17 f) 114)).alloc (Obj.cells (arrK .i64 16 fun _ => 0) 26)) w.heap.size .i64 17 f := (At.new _ rfl).old _
  have hR0 : Row ((w.alloc (Obj.cells (arrK .i64 17 f) 114)).alloc (Obj.cells (arrK .i64 16 fun _ => 0) 26)) (w.heap.size + 1) 16 := (At.new (k := .i64) (f := fun _ => 0) _ (by simp)).row
  have hL := Lib.hid hL0
  have hR := Lib.hid hR0
  have hT := Lib.hid hT0
  clear hL0 hR0 hT0
  go_enter Try.func95, Try.ntmps95
  go_wp2_with fail
  generalize (w.alloc _).alloc _ = W0 at *
  go_loopw [11] (fun i wr => ∃ k : Nat, i = .int .i64 k ∧ k ≤ 3 ∧ Hid (At wr w.heap.size .i64 17 (lpassN f k)) ∧ Hid (Row wr (w.heap.size + 1) 16) ∧ Hid (Below w.heap.size w wr)) (fun i _ => 3 - (intOf i).toNat)
  case atStart => exact ⟨0, rfl, by omega, hT, hR, hL⟩
  case round =>
    clear hT hR hL
    obtain ⟨k, rfl, hk, hT, hR, hL⟩ := hrel
    by_cases h3 : k = 3
    · subst h3
      obtain ⟨F, hF⟩ : ∃ F, lpassN f 3 = F := ⟨_, rfl⟩
      have hF3 := htm.out 3
      have hlow : ∀ i < 16, F i < 65536 := fun i hi => by rw [← hF, show lpassN f 3 = lpass (lpassN f 2) from rfl]; unfold lpass; rw [if_pos hi]; exact lout_lt _ _ _
      have hvl := dval_lt hlow
      have hdg := dgt_dval hlow
      rw [hF] at hT hfin
      rw [p16] at hvl
      obtain ⟨v, hv⟩ : ∃ v, dval F 16 = v := ⟨_, rfl⟩
      rw [hv] at hvl hdg hfin
      have hvf := Lib.hid hfin.out.2
      replace hdg := Lib.hid hdg
      replace hvl := Lib.hid hvl
      clear hF hv hlow hF3 hfin htm
      rw [show ((3 : Nat) : Int) = 3 from rfl]
      have hT1 := Lib.hid (hT.out.old (Obj.cells (arrK .i64 16 fun _ => 0) 26))
      have hR1 := Lib.hid ((row_old (o := Obj.cells (arrK .i64 16 fun _ => 0) 26) hR.out.lt).2 hR.out)
      have hL1 := Lib.hid (Below.trans hL.out ((below_alloc wr (Obj.cells (arrK .i64 16 fun _ => 0) 26)).mono hL.out.size))
      have hX1 := Lib.hid (At.new (w := wr) (k := .i64) (m := 16) (f := fun _ => 0) 26 rfl)
      have hlt := hR.out.lt
      clear hT hR hL
      go_upto_region 15 with (fail)
      obtain ⟨g, hg⟩ : ∃ g, wr.heap.size = g := ⟨_, rfl⟩
      rw [hg] at hX1 hlt ⊢
      clear hg
      generalize wr.alloc _ = W1 at *
      have hcc := arrK_cells .i64 17 F
      have hcp : ∀ ty, (Builtin.copy_ #[34, 34] ty #[.slice (some ⟨g, 0, none⟩) 16 16, .slice (some ⟨w.heap.size, 0, none⟩) 16 17]).run Try.prog W1.drew = .ok (.int .i64 16) (W1.drew.setRow g (arrK .i64 16 (dgt v))) := fun ty => by
        rw [run_copy_rows (N := 16) (M := 17) (n := 16) Try.underlying34 (by kernel_rfl) rfl (by omega) (by omega) (by rw [rowAt_drew, hT1.out.eq]; intro u hu; exact Array.all_eq_true_iff_forall_mem.1 hcc.2 u (by simpa using hu)) hX1.out.row.drew hT1.out.row.drew, rowAt_drew, rowAt_drew, hT1.out.eq, hX1.out.eq, splice_arrK (by omega) (by omega)]
        refine congrArg (fun z => Result.ok (Value.int .i64 16) (W1.drew.setRow g z)) (arrK_congr fun i hi => ?_)
        rw [if_pos ⟨by omega, by omega⟩, hdg.out i hi, Nat.zero_add, Nat.sub_zero]
      have hX2 := Lib.hid (At.put (k := .i64) (f := dgt v) hX1.out.row.drew)
      have hR2 := Lib.hid ((row_setRow_far (c' := arrK .i64 16 (dgt v)) (show w.heap.size + 1 ≠ g by omega)).2 hR1.out.drew)
      have hL2 := Lib.hid (below_setRow (c := arrK .i64 16 (dgt v)) hL1.out.drew (show w.heap.size ≤ g by omega))
      clear hX1 hR1 hL1 hT1 hdg hcc
      go_region
      generalize W1.drew.setRow _ _ = W2 at *
      clear hcp
      go_wp2_with fail
      go_loopw [] (fun wr => ∃ v : Nat, Hid (v < 2 ^ 256) ∧ Hid (v % fP = V) ∧ Hid (At wr g .i64 16 (dgt v)) ∧ Hid (Row wr (w.heap.size + 1) 16) ∧ Hid (Below w.heap.size w wr)) (fun wr => feOfW wr g)
      case atStart => exact ⟨v, hvl, hvf, hX2, hR2, hL2⟩
      case round =>
        clear hX2 hR2 hL2 hvl hvf v
        obtain ⟨v, hvl, hvf, hX, hR, hL⟩ := hrel
        obtain ⟨wo, hwo⟩ : ∃ wo : World, wo = wr := ⟨_, rfl⟩
        have hmo := Lib.hid (show feOfW wr g = v from feOfW_at hX.out hvl.out)
        have hX1 := Lib.hid (hX.out.old (Obj.cells (arrK .i64 16 fun _ => 0) 26))
        have hR1 := Lib.hid ((row_old (o := Obj.cells (arrK .i64 16 fun _ => 0) 26) hR.out.lt).2 hR.out)
        have hL1 := Lib.hid (Below.trans hL.out ((below_alloc wr (Obj.cells (arrK .i64 16 fun _ => 0) 26)).mono hL.out.size))
        have hY1 := Lib.hid ((At.new (w := wr) (k := .i64) (m := 16) (f := fun _ => 0) 26 rfl).congr (f' := mixD (ddif (dgt v) pdig) 0) fun i _ => by simp [mixD])
        have hlg := hX.out.lt
        have hlr := hR.out.lt
        have hlessP := Lib.hid (less_P hvl.out)
        clear hX hR hL
        go_upto_region 18 with (fail)
        obtain ⟨y, hy⟩ : ∃ y, wr.heap.size = y := ⟨_, rfl⟩
        rw [hy] at hY1 hlg hlr ⊢
        clear hy
        generalize wr.alloc _ = W3 at *
        go_wp2_with fail
        go_loopw [6, 38] (fun b i wr => ∃ s : Nat, i = .int .i64 s ∧ s ≤ 16 ∧ b = .int .i64 (dbor (dgt v) pdig s : Nat) ∧ Hid (At wr g .i64 16 (dgt v)) ∧ Hid (At wr y .i64 16 (mixD (ddif (dgt v) pdig) s)) ∧ Hid (Row wr (w.heap.size + 1) 16) ∧ Hid (Below w.heap.size w wr)) (fun _ i _ => 16 - (intOf i).toNat)
        case atStart => exact ⟨0, rfl, by omega, rfl, hX1, hY1, hR1, hL1⟩
        case round =>
          clear hX1 hY1 hR1 hL1
          obtain ⟨s, rfl, hs, rfl, hX, hY, hR, hL⟩ := hrel
          by_cases h16 : s = 16
          · subst h16
            rw [show ((16 : Nat) : Int) = 16 from rfl]
            by_cases hlt : v < fP
            · rw [hlessP.out.1 hlt, show ((1 : Nat) : Int) = 1 from rfl]
              have hVv : V = v := by rw [← hvf.out, Nat.mod_eq_of_lt hlt]
              have hr1 := hX.out.row
              have hr2 := hX.out.eq
              have hr3 := hR.out
              have hcv := arrK_cells .i64 16 (dgt v)
              clear hlt hvf hvl hmo hlessP hY
              subst hVv
              go_wp2_with fail
              exact ret_stored (p := 2) (ty := 26) (g := w.heap.size + 1) (n := 16) (c := arrK .i64 16 (dgt V)) rfl Try.underlying26 rfl (by kernel_rfl) rfl hr3 hcv.1 rfl ⟨rfl, below_setRow hL.out (by omega)⟩
            · have hge : fP ≤ v := by omega
              obtain ⟨hb0, hdv⟩ := hlessP.out.2 hge
              rw [hb0, show ((0 : Nat) : Int) = 0 from rfl]
              have hY2 : At wr y .i64 16 (dgt (v - fP)) := hY.out.congr fun i hi => by
                unfold mixD
                rw [if_pos hi, ← hdv, dgt_dval (fun i _ => ddif_lt (dgt_lt v i) (pdig_lt i)) i hi]
              have hn1 := Lib.hid (show v - fP < 2 ^ 256 from Nat.lt_of_le_of_lt (Nat.sub_le _ _) hvl.out)
              have hn2 := Lib.hid (show (v - fP) % fP = V by rw [← hvf.out, Nat.mod_eq_sub_mod hge])
              have hn3 := Lib.hid (show v - fP < v by have := fP_pos; omega)
              obtain ⟨v2, hv2⟩ : ∃ v2, v - fP = v2 := ⟨_, rfl⟩
              rw [hv2] at hY2 hn1 hn2 hn3
              have hr1 := hY2.row
              have hr2 := hY2.eq
              have hr3 := hX.out.row
              have hcv := arrK_cells .i64 16 (dgt v2)
              have hX2 := Lib.hid (At.put (k := .i64) (f := dgt v2) hX.out.row)
              have hR2 := Lib.hid ((row_setRow_far (c' := arrK .i64 16 (dgt v2)) (show w.heap.size + 1 ≠ g by omega)).2 hR.out)
              have hL2 := Lib.hid (below_setRow (c := arrK .i64 16 (dgt v2)) hL.out (show w.heap.size ≤ g by omega))
              clear hv2 hdv hb0 hge hlt hlessP hvf hvl hY hY2 hX hR hL
              go_wp2_with fail
              go_roundw
              case rel => exact ⟨v2, hn1, hn2, hX2, hR2, hL2⟩
              case measure => rw [hmo.out, feOfW_at hX2.out hn1.out]; exact hn3.out
          · have hs16 : (s : Int) < 16 := by omega
            have cs := hX.out.cell (i := s) (by omega)
            have cy := hY.out.cell (i := s) (by omega)
            have fy := hY.out.row.frozen s
            have hd2 : dbor (dgt v) pdig (s + 1) = if dgt v s < pdig s + dbor (dgt v) pdig s then 1 else 0 := rfl
            have hd1 : ddif (dgt v) pdig s = if dgt v s < pdig s + dbor (dgt v) pdig s then dgt v s + 65536 - pdig s - dbor (dgt v) pdig s else dgt v s - pdig s - dbor (dgt v) pdig s := rfl
            have hbl := dbor_le (dgt v) pdig s
            have hfl := dgt_lt v s
            have hA2 : Hid (At (wr.setCell ⟨y, s, none⟩ (.int .i64 (ddif (dgt v) pdig s : Nat))) g .i64 16 (dgt v)) := Lib.hid (hX.out.farC (by simp; omega))
            have hY2 := Lib.hid ((hY.out.set s (ddif (dgt v) pdig s)).congr fun p _ => mixD_step _ s p)
            have hR2 : Hid (Row (wr.setCell ⟨y, s, none⟩ (.int .i64 (ddif (dgt v) pdig s : Nat))) (w.heap.size + 1) 16) := Lib.hid (row_setCell.2 hR.out)
            have hL2 := Lib.hid (show Below w.heap.size w (wr.setCell ⟨y, s, none⟩ (.int .i64 (ddif (dgt v) pdig s : Nat))) from hL.out.setCell (by simp; omega) _)
            clear hX hY hR hL
            obtain ⟨b, hb⟩ : ∃ b, dbor (dgt v) pdig s = b := ⟨_, rfl⟩
            obtain ⟨fs, hfs⟩ : ∃ b, dgt v s = b := ⟨_, rfl⟩
            rw [hb] at hd1 hd2 hbl ⊢
            rw [hfs] at hd1 hd2 hfl cs
            clear hb hfs
            generalize mixD (ddif (dgt v) pdig) s s = yy at *
            by_cases h0 : s = 0
            · have hm : pdig s = 65517 := by rw [h0]; rfl
              have t0 : ((s : Int) == 0) = true := by rw [beq_iff_eq]; omega
              have t15 : ((s : Int) == 15) = false := by rw [beq_eq_false_iff_ne]; omega
              clear h0
              rw [hm] at hd1 hd2
              by_cases hlt : fs < 65517 + b
              · rw [if_pos hlt] at hd1 hd2
                obtain ⟨d, hd⟩ : ∃ d, d = fs + 65536 - 65517 - b := ⟨_, rfl⟩
                rw [← hd] at hd1
                rw [hd1] at hY2 hA2 hR2 hL2
                have hw1 : IntKind.i64.wrap ((fs : Int) - 65517) = (fs : Int) - 65517 := by rw [IntKind.wrap_i64]; omega
                have hw2 : IntKind.i64.wrap ((fs : Int) - 65517 - (b : Int)) = (d : Int) - 65536 := by rw [IntKind.wrap_i64]; omega
                have hneg : (d : Int) - 65536 < 0 := by omega
                have hw3 : IntKind.i64.wrap ((d : Int) - 65536 + 65536) = (d : Int) := by rw [IntKind.wrap_i64]; omega
                replace hd2 := Lib.hid hd2
                clear hd hd1 hlt hbl hfl hm
                go_wp2_with fail
                go_roundw
                case rel => exact ⟨s + 1, by go_num, by omega, by rw [hd2.out]; go_num, hA2, hY2, hR2, hL2⟩
                case measure => simp [intOf]; omega
              · rw [if_neg hlt] at hd1 hd2
                obtain ⟨d, hd⟩ : ∃ d, d = fs - 65517 - b := ⟨_, rfl⟩
                rw [← hd] at hd1
                rw [hd1] at hY2 hA2 hR2 hL2
                have hw1 : IntKind.i64.wrap ((fs : Int) - 65517) = (fs : Int) - 65517 := by rw [IntKind.wrap_i64]; omega
                have hw2 : IntKind.i64.wrap ((fs : Int) - 65517 - (b : Int)) = (d : Int) := by rw [IntKind.wrap_i64]; omega
                have hneg : ¬ (d : Int) < 0 := by omega
                replace hd2 := Lib.hid hd2
                clear hd hd1 hlt hbl hfl hm
                go_wp2_with fail
                go_roundw
                case rel => exact ⟨s + 1, by go_num, by omega, by rw [hd2.out]; go_num, hA2, hY2, hR2, hL2⟩
                case measure => simp [intOf]; omega
            · have t0 : ((s : Int) == 0) = false := by rw [beq_eq_false_iff_ne]; omega
              by_cases h15 : s = 15
              · have hm : pdig s = 32767 := by rw [h15]; rfl
                have t15 : ((s : Int) == 15) = true := by rw [beq_iff_eq]; omega
                clear h15 h0
                rw [hm] at hd1 hd2
                by_cases hlt : fs < 32767 + b
                · rw [if_pos hlt] at hd1 hd2
                  obtain ⟨d, hd⟩ : ∃ d, d = fs + 65536 - 32767 - b := ⟨_, rfl⟩
                  rw [← hd] at hd1
                  rw [hd1] at hY2 hA2 hR2 hL2
                  have hw1 : IntKind.i64.wrap ((fs : Int) - 32767) = (fs : Int) - 32767 := by rw [IntKind.wrap_i64]; omega
                  have hw2 : IntKind.i64.wrap ((fs : Int) - 32767 - (b : Int)) = (d : Int) - 65536 := by rw [IntKind.wrap_i64]; omega
                  have hneg : (d : Int) - 65536 < 0 := by omega
                  have hw3 : IntKind.i64.wrap ((d : Int) - 65536 + 65536) = (d : Int) := by rw [IntKind.wrap_i64]; omega
                  replace hd2 := Lib.hid hd2
                  clear hd hd1 hlt hbl hfl hm
                  go_wp2_with fail
                  go_roundw
                  case rel => exact ⟨s + 1, by go_num, by omega, by rw [hd2.out]; go_num, hA2, hY2, hR2, hL2⟩
                  case measure => simp [intOf]; omega
                · rw [if_neg hlt] at hd1 hd2
                  obtain ⟨d, hd⟩ : ∃ d, d = fs - 32767 - b := ⟨_, rfl⟩
                  rw [← hd] at hd1
                  rw [hd1] at hY2 hA2 hR2 hL2
                  have hw1 : IntKind.i64.wrap ((fs : Int) - 32767) = (fs : Int) - 32767 := by rw [IntKind.wrap_i64]; omega
                  have hw2 : IntKind.i64.wrap ((fs : Int) - 32767 - (b : Int)) = (d : Int) := by rw [IntKind.wrap_i64]; omega
                  have hneg : ¬ (d : Int) < 0 := by omega
                  replace hd2 := Lib.hid hd2
                  clear hd hd1 hlt hbl hfl hm
                  go_wp2_with fail
                  go_roundw
                  case rel => exact ⟨s + 1, by go_num, by omega, by rw [hd2.out]; go_num, hA2, hY2, hR2, hL2⟩
                  case measure => simp [intOf]; omega
              · have hm : pdig s = 65535 := by unfold pdig; rw [if_neg h0, if_neg h15]
                have t15 : ((s : Int) == 15) = false := by rw [beq_eq_false_iff_ne]; omega
                rw [hm] at hd1 hd2
                by_cases hlt : fs < 65535 + b
                · rw [if_pos hlt] at hd1 hd2
                  obtain ⟨d, hd⟩ : ∃ d, d = fs + 65536 - 65535 - b := ⟨_, rfl⟩
                  rw [← hd] at hd1
                  rw [hd1] at hY2 hA2 hR2 hL2
                  have hw1 : IntKind.i64.wrap ((fs : Int) - 65535) = (fs : Int) - 65535 := by rw [IntKind.wrap_i64]; omega
                  have hw2 : IntKind.i64.wrap ((fs : Int) - 65535 - (b : Int)) = (d : Int) - 65536 := by rw [IntKind.wrap_i64]; omega
                  have hneg : (d : Int) - 65536 < 0 := by omega
                  have hw3 : IntKind.i64.wrap ((d : Int) - 65536 + 65536) = (d : Int) := by rw [IntKind.wrap_i64]; omega
                  replace hd2 := Lib.hid hd2
                  clear hd hd1 hlt hbl hfl hm
                  go_wp2_with fail
                  go_roundw
                  case rel => exact ⟨s + 1, by go_num, by omega, by rw [hd2.out]; go_num, hA2, hY2, hR2, hL2⟩
                  case measure => simp [intOf]; omega
                · rw [if_neg hlt] at hd1 hd2
                  obtain ⟨d, hd⟩ : ∃ d, d = fs - 65535 - b := ⟨_, rfl⟩
                  rw [← hd] at hd1
                  rw [hd1] at hY2 hA2 hR2 hL2
                  have hw1 : IntKind.i64.wrap ((fs : Int) - 65535) = (fs : Int) - 65535 := by rw [IntKind.wrap_i64]; omega
                  have hw2 : IntKind.i64.wrap ((fs : Int) - 65535 - (b : Int)) = (d : Int) := by rw [IntKind.wrap_i64]; omega
                  have hneg : ¬ (d : Int) < 0 := by omega
                  replace hd2 := Lib.hid hd2
                  clear hd hd1 hlt hbl hfl hm
                  go_wp2_with fail
                  go_roundw
                  case rel => exact ⟨s + 1, by go_num, by omega, by rw [hd2.out]; go_num, hA2, hY2, hR2, hL2⟩
                  case measure => simp [intOf]; omega
    · have hk3 : (k : Int) < 3 := by omega
      have htk := htm.out k
      have hpk : lpass (lpassN f k) = lpassN f (k + 1) := rfl
      obtain ⟨F, hF⟩ : ∃ F, lpassN f k = F := ⟨_, rfl⟩
      rw [hF] at hT htk hpk
      replace hpk := Lib.hid hpk
      have h16 := htk 16 (by omega)
      have c16 := hT.out.cell (i := 16) (by omega)
      have f16 := hT.out.row.frozen 16
      obtain ⟨c0, hc0'⟩ : ∃ c, F 16 * 38 = c := ⟨_, rfl⟩
      have hw1 : IntKind.i64.wrap ((F 16 : Int) * 38) = (c0 : Int) := by rw [IntKind.wrap_i64]; omega
      have hcb : c0 ≤ 1369094286720630784 := by omega
      have hT1 := Lib.hid ((hT.out.set 16 0).congr fun i _ => midF_start F c0 i)
      have hlc := Lib.hid (fun s (hs : s ≤ 17) => lcar_le htk hcb s hs)
      have hFl := Lib.hid (fun s (hs : s < 17) => htk s hs)
      have hpk2 := Lib.hid (fun p hp => midF_end F p hp)
      rw [hc0'] at hpk2
      have hR1 := Lib.hid (row_setCell (a := ⟨w.heap.size, 16, none⟩) (v := .int .i64 (0 : Nat)) |>.2 hR.out)
      have hL1 := Lib.hid (show Below w.heap.size w (wr.setCell ⟨w.heap.size, 16, none⟩ (.int .i64 (0 : Nat))) from hL.out.setCell (Nat.le_refl _) _)
      clear hF htk hc0' hcb hT hR hL
      generalize F 16 = x16 at *
      go_wp2_with fail
      rw [show ((0 : Nat) : Int) = 0 from rfl] at hT1 hR1 hL1
      generalize wr.setCell _ _ = wr1 at *
      clear hw1 h16 c16 f16
      go_loopw [3, 17] (fun c i wr => ∃ s : Nat, i = .int .i64 s ∧ s ≤ 16 ∧ c = .int .i64 (lcar F c0 s : Nat) ∧ Hid (At wr w.heap.size .i64 17 (midF F c0 s)) ∧ Hid (Row wr (w.heap.size + 1) 16) ∧ Hid (Below w.heap.size w wr)) (fun _ i _ => 16 - (intOf i).toNat)
      case atStart => exact ⟨0, rfl, by omega, rfl, hT1, hR1, hL1⟩
      case round =>
        clear hT1 hR1 hL1
        obtain ⟨s, rfl, hs, rfl, hT, hR, hL⟩ := hrel
        by_cases h16 : s = 16
        · subst h16
          have c16 := hT.out.cell (i := 16) (by omega)
          have f16 := hT.out.row.frozen 16
          have hT2 := Lib.hid ((hT.out.set 16 (lcar F c0 16)).congr hpk2.out)
          have hR2 : Hid (Row (wr.setCell ⟨w.heap.size, 16, none⟩ (.int .i64 (lcar F c0 16 : Nat))) (w.heap.size + 1) 16) := Lib.hid (row_setCell.2 hR.out)
          have hL2 := Lib.hid (show Below w.heap.size w (wr.setCell ⟨w.heap.size, 16, none⟩ (.int .i64 (lcar F c0 16 : Nat))) from hL.out.setCell (Nat.le_refl _) _)
          rw [hpk.out] at hT2
          clear hT hR hL hpk2 hpk
          generalize midF F c0 16 16 = y at *
          go_wp2_with fail
          go_roundw
          case rel => exact ⟨k + 1, by go_num, by omega, hT2, hR2, hL2⟩
          case measure => simp [intOf]; omega
        · have hs16 : (s : Int) < 16 := by omega
          have cs := hT.out.cell (i := s) (by omega)
          have fs := hT.out.row.frozen s
          rw [show midF F c0 s s = F s by unfold midF; rw [if_neg (by omega), if_neg (by omega)]] at cs
          have hl := hlc.out s (by omega)
          have hb := hFl.out s (by omega)
          have hn1 := Lib.hid (show lcar F c0 (s + 1) = (lcar F c0 s + F s) / 65536 from rfl)
          have hn2 := Lib.hid (show lout F c0 s = (lcar F c0 s + F s) % 65536 from rfl)
          have hT2 := Lib.hid ((hT.out.set s (lout F c0 s)).congr fun p _ => midF_step F c0 s p)
          have hR2 : Hid (Row (wr.setCell ⟨w.heap.size, s, none⟩ (.int .i64 (lout F c0 s : Nat))) (w.heap.size + 1) 16) := Lib.hid (row_setCell.2 hR.out)
          have hL2 := Lib.hid (show Below w.heap.size w (wr.setCell ⟨w.heap.size, s, none⟩ (.int .i64 (lout F c0 s : Nat))) from hL.out.setCell (Nat.le_refl _) _)
          rw [hn2.out] at hT2 hR2 hL2
          obtain ⟨x, hx⟩ : ∃ x, lcar F c0 s + F s = x := ⟨_, rfl⟩
          rw [hx] at hn1 hT2 hR2 hL2
          have hw1 : IntKind.i64.wrap ((lcar F c0 s : Int) + (F s : Int)) = (x : Int) := by rw [IntKind.wrap_i64]; omega
          have hand := num_andM (a := x) (by omega)
          have hxb : x < 9223372036854775808 := by omega
          clear hx hT hR hL hn2 hl hb
          generalize lcar F c0 s = c at *
          generalize F s = y at *
          rw [show ((x % 65536 : Nat) : Int) = (x : Int) % 65536 from by omega] at hT2 hR2 hL2
          go_wp2_with fail
          go_roundw
          case rel => exact ⟨s + 1, by go_num, by omega, congrArg (Value.int .i64) (by rw [hn1.out]; omega), hT2, hR2, hL2⟩
          case measure => simp [intOf]; omega
end Go.Proofs.Ytodcjeaannfbnaa
namespace Go.Proofs.Ytodcjeaannfbnaa
open Go.ChangeShapes Go.WideShapes Go.ChangeAt Go.RowKit
set_option maxHeartbeats 2000000
set_option maxRecDepth 100000
attribute [local go_sem ↓] load_fe store_fe execl_fe execs_fe load_t17 store_t17 execl_t17 execs_t17
attribute [local go_sem] isHead_mk blkOf_mk isAgg_mk cellsV_mk row_drew rowAt_drew row_new_cells row_old rowAt_new rowAt_old setRow_new zeroFe zeroT
theorem dval_add (f g : Nat → Nat) (n : Nat) : dval (fun i => f i + g i) n = dval f n + dval g n := by
  induction n with
  | zero => rfl
  | succ n ih => simp only [dval]; rw [ih, Nat.mul_add]; omega
theorem plus_val {a b : Nat} (ha : a < 2 ^ 256) (hb : b < 2 ^ 256) {t : Nat → Nat} (h : ∀ i < 16, t i = dgt a i + dgt b i) : dval t 16 = a + b := by
  rw [dval_congr h, dval_add, dval_dgt, dval_dgt, p16, Nat.mod_eq_of_lt ha, Nat.mod_eq_of_lt hb]
theorem less_val {a b : Nat} (ha : a < 2 ^ 256) (hb : b < 2 ^ 256) {t : Nat → Nat} (h : ∀ i < 16, t i + dgt b i = dgt a i + 4 * pdig i) : dval t 16 = a + 4 * fP - b := by
  have h1 := dval_congr h
  rw [dval_add, dval_add, dval_dgt, dval_dgt, p16, Nat.mod_eq_of_lt ha, Nat.mod_eq_of_lt hb] at h1
  have h2 : ∀ n, dval (fun i => 4 * pdig i) n = 4 * dval pdig n := fun n => by
    induction n with
    | zero => rfl
    | succ n ih => simp only [dval]; rw [ih, Nat.mul_add, Nat.mul_left_comm]
  rw [h2, pdig_val] at h1
  omega
/-- The digits laid so far, and zeros. -/
def cut16 (f : Nat → Nat) (j : Nat) : Nat := if j < 16 then f j else 0
theorem mixD16 (f : Nat → Nat) (j : Nat) (_ : j < 17) : mixD f 16 j = cut16 f j := rfl
theorem cut_val (f : Nat → Nat) : dval (cut16 f) 16 + 2 ^ 256 * cut16 f 16 = dval f 16 := by
  rw [dval_congr (f := cut16 f) (g := f) fun i hi => by unfold cut16; rw [if_pos hi], show cut16 f 16 = 0 from rfl]; omega
theorem fe_Plus (a b : Nat) (w : World) (ha : a < 2 ^ 256) (hb : b < 2 ^ 256) : Calls Try.prog 21 #[feV a, feV b] w fun e w' => e = .returned (feV ((a + b) % fP)) ∧ Below w.heap.size w w' := by
  have hF : ∀ i, dgt a i + dgt b i < 131072 := fun i => by have := dgt_lt a i; have := dgt_lt b i; omega
  have htm : Tame (cut16 fun i => dgt a i + dgt b i) := fun i _ => by
    show (if i < 16 then dgt a i + dgt b i else 0) < _
    have := hF i
    split <;> omega
  have hle := Lib.hid (fun V => ref_least (cut16 fun i => dgt a i + dgt b i) V htm)
  rw [cut_val, plus_val ha hb (t := fun i => dgt a i + dgt b i) fun _ _ => rfl] at hle
  replace hF := Lib.hid hF
  obtain ⟨V, hV⟩ : ∃ V, (a + b) % fP = V := ⟨_, rfl⟩
  rw [hV] at hle ⊢
  clear hV htm ha hb
  unfold feV at hle ⊢
  have hFx := Lib.hid (fun i => show (fun i => dgt a i + dgt b i) i = dgt a i + dgt b i from rfl)
  generalize (fun i => dgt a i + dgt b i) = F at *
  have hc0 := arrK_cells .i64 16 fun _ => 0
  have hc1 := arrK_cells .i64 17 fun _ => 0
  have hL0 : Below w.heap.size w ((((w.alloc (Obj.cells (arrK .i64 16 (dgt a)) 26)).alloc (Obj.cells (arrK .i64 16 (dgt b)) 26)).alloc (Obj.cells (arrK .i64 16 fun _ => 0) 26)).alloc (Obj.cells (arrK .i64 17 fun _ => 0) 114)) := by go_grown
  have hA0 : At ((((w.alloc (Obj.cells (arrK .i64 16 (dgt a)) 26)).alloc (Obj.cells (arrK .i64 16 (dgt b)) 26)).alloc (Obj.cells (arrK .i64 16 fun _ => 0) 26)).alloc (Obj.cells (arrK .i64 17 fun _ => 0) 114)) w.heap.size .i64 16 (dgt a) := (((At.new _ rfl).old _).old _).old _
  have hB0 : At ((((w.alloc (Obj.cells (arrK .i64 16 (dgt a)) 26)).alloc (Obj.cells (arrK .i64 16 (dgt b)) 26)).alloc (Obj.cells (arrK .i64 16 fun _ => 0) 26)).alloc (Obj.cells (arrK .i64 17 fun _ => 0) 114)) (w.heap.size + 1) .i64 16 (dgt b) := ((At.new _ (by simp)).old _).old _
  have hR0 : Row ((((w.alloc (Obj.cells (arrK .i64 16 (dgt a)) 26)).alloc (Obj.cells (arrK .i64 16 (dgt b)) 26)).alloc (Obj.cells (arrK .i64 16 fun _ => 0) 26)).alloc (Obj.cells (arrK .i64 17 fun _ => 0) 114)) (w.heap.size + 1 + 1) 16 := ((At.new (k := .i64) (f := fun _ => 0) _ (by simp)).old _).row
  have hT0 : At ((((w.alloc (Obj.cells (arrK .i64 16 (dgt a)) 26)).alloc (Obj.cells (arrK .i64 16 (dgt b)) 26)).alloc (Obj.cells (arrK .i64 16 fun _ => 0) 26)).alloc (Obj.cells (arrK .i64 17 fun _ => 0) 114)) (w.heap.size + 1 + 1 + 1) .i64 17 (mixD F 0) := (At.new _ (by simp)).congr fun i _ => by simp [mixD]
  have hL := Lib.hid hL0
  have hR := Lib.hid hR0
  have hA := Lib.hid hA0
  have hB := Lib.hid hB0
  have hT := Lib.hid hT0
  clear hL0 hR0 hA0 hB0 hT0
  go_enter Try.func21, Try.ntmps21
  go_wp2_with fail
  generalize (((w.alloc _).alloc _).alloc _).alloc _ = W0 at *
  go_loopw [7] (fun i wr => ∃ s : Nat, i = .int .i64 s ∧ s ≤ 16 ∧ Hid (At wr w.heap.size .i64 16 (dgt a)) ∧ Hid (At wr (w.heap.size + 1) .i64 16 (dgt b)) ∧ Hid (Row wr (w.heap.size + 1 + 1) 16) ∧ Hid (At wr (w.heap.size + 1 + 1 + 1) .i64 17 (mixD F s)) ∧ Hid (Below w.heap.size w wr)) (fun i _ => 16 - (intOf i).toNat)
  case atStart => exact ⟨0, rfl, by omega, hA, hB, hR, hT, hL⟩
  case round =>
    clear hA hB hR hT hL
    obtain ⟨s, rfl, hs, hA, hB, hR, hT, hL⟩ := hrel
    by_cases h16 : s = 16
    · subst h16
      have hTc := hT.out.congr (f' := cut16 F) (mixD16 F)
      have hr1 := hTc.row
      have hr2 := hTc.eq
      rw [show ((16 : Nat) : Int) = 16 from rfl]
      clear hA hB hT
      go_wp2_with fail
      refine (hle.out _).mono ?_
      rintro e w2 ⟨rfl, hbz⟩
      have hR2 := row_below hR.out hbz hR.out.lt
      have hL2 := Lib.hid (below_step hbz hL.out (Nat.le_refl _))
      have hcv := arrK_cells .i64 16 (dgt V)
      clear hr1 hr2 hbz hTc hR hL
      dsimp only
      go_wp2_with fail
      exact ret_stored (p := 4) (ty := 26) (g := w.heap.size + 1 + 1) (n := 16) (c := arrK .i64 16 (dgt V)) rfl Try.underlying26 rfl (by kernel_rfl) rfl hR2 hcv.1 rfl ⟨rfl, below_setRow hL2.out (by omega)⟩
    · have hs16 : (s : Int) < 16 := by omega
      have hs17 : (s : Int) < 17 := by omega
      have ca := hA.out.cell (i := s) (by omega)
      have cb := hB.out.cell (i := s) (by omega)
      have ct := hT.out.cell (i := s) (by omega)
      have ft := hT.out.row.frozen s
      have hb := hF.out s
      have hx := hFx.out s
      have hA2 : Hid (At (wr.setCell ⟨w.heap.size + 1 + 1 + 1, s, none⟩ (.int .i64 (F s : Nat))) w.heap.size .i64 16 (dgt a)) := Lib.hid (hA.out.farC (by simp <;> omega))
      have hB2 : Hid (At (wr.setCell ⟨w.heap.size + 1 + 1 + 1, s, none⟩ (.int .i64 (F s : Nat))) (w.heap.size + 1) .i64 16 (dgt b)) := Lib.hid (hB.out.farC (by simp <;> omega))
      have hT2 := Lib.hid ((hT.out.set s (F s)).congr fun p _ => mixD_step F s p)
      have hR2 : Hid (Row (wr.setCell ⟨w.heap.size + 1 + 1 + 1, s, none⟩ (.int .i64 (F s : Nat))) (w.heap.size + 1 + 1) 16) := Lib.hid (row_setCell.2 hR.out)
      have hL2 := Lib.hid (show Below w.heap.size w (wr.setCell ⟨w.heap.size + 1 + 1 + 1, s, none⟩ (.int .i64 (F s : Nat))) from hL.out.setCell (by simp <;> omega) _)
      have hw : IntKind.i64.wrap ((dgt a s : Int) + (dgt b s : Int)) = (F s : Int) := by rw [IntKind.wrap_i64]; omega
      clear hx hb hA hB hR hT hL
      generalize mixD F s s = yy at *
      generalize F s = x at *
      generalize dgt a s = x1 at *
      generalize dgt b s = x2 at *
      go_wp2
      go_region
      all_goals
        go_wp2_with fail
        go_roundw
        case rel => exact ⟨s + 1, by go_num, by omega, Lib.hid hA2.out.drew, Lib.hid hB2.out.drew, Lib.hid hR2.out.drew, Lib.hid hT2.out.drew, Lib.hid hL2.out.drew⟩
        case measure => simp [intOf]; omega
theorem fe_Less (a b : Nat) (w : World) (ha : a < 2 ^ 256) (hb : b < 2 ^ 256) : Calls Try.prog 23 #[feV a, feV b] w fun e w' => e = .returned (feV ((a + 4 * fP - b) % fP)) ∧ Below w.heap.size w w' := by
  have hp : ∀ i, 65536 ≤ 4 * pdig i ∧ 4 * pdig i ≤ 262140 := fun i => by unfold pdig; split <;> (try split) <;> omega
  have hF : ∀ i, dgt a i + 4 * pdig i - dgt b i < 400000 ∧ dgt b i ≤ 4 * pdig i := fun i => by have := dgt_lt a i; have := dgt_lt b i; have := hp i; omega
  have htm : Tame (cut16 fun i => dgt a i + 4 * pdig i - dgt b i) := fun i _ => by
    show (if i < 16 then dgt a i + 4 * pdig i - dgt b i else 0) < _
    have := hF i
    split <;> omega
  have hle := Lib.hid (fun V => ref_least (cut16 fun i => dgt a i + 4 * pdig i - dgt b i) V htm)
  rw [cut_val, less_val ha hb (t := fun i => dgt a i + 4 * pdig i - dgt b i) fun i _ => by have := (hF i).2; omega] at hle
  replace hF := Lib.hid hF
  obtain ⟨V, hV⟩ : ∃ V, (a + 4 * fP - b) % fP = V := ⟨_, rfl⟩
  rw [hV] at hle ⊢
  clear hV htm ha hb hp
  unfold feV at hle ⊢
  have hFx := Lib.hid (fun i => show (fun i => dgt a i + 4 * pdig i - dgt b i) i = dgt a i + 4 * pdig i - dgt b i from rfl)
  generalize (fun i => dgt a i + 4 * pdig i - dgt b i) = F at *
  have hc0 := arrK_cells .i64 16 fun _ => 0
  have hc1 := arrK_cells .i64 17 fun _ => 0
  have hL0 : Below w.heap.size w ((((w.alloc (Obj.cells (arrK .i64 16 (dgt a)) 26)).alloc (Obj.cells (arrK .i64 16 (dgt b)) 26)).alloc (Obj.cells (arrK .i64 16 fun _ => 0) 26)).alloc (Obj.cells (arrK .i64 17 fun _ => 0) 114)) := by go_grown
  have hA0 : At ((((w.alloc (Obj.cells (arrK .i64 16 (dgt a)) 26)).alloc (Obj.cells (arrK .i64 16 (dgt b)) 26)).alloc (Obj.cells (arrK .i64 16 fun _ => 0) 26)).alloc (Obj.cells (arrK .i64 17 fun _ => 0) 114)) w.heap.size .i64 16 (dgt a) := (((At.new _ rfl).old _).old _).old _
  have hB0 : At ((((w.alloc (Obj.cells (arrK .i64 16 (dgt a)) 26)).alloc (Obj.cells (arrK .i64 16 (dgt b)) 26)).alloc (Obj.cells (arrK .i64 16 fun _ => 0) 26)).alloc (Obj.cells (arrK .i64 17 fun _ => 0) 114)) (w.heap.size + 1) .i64 16 (dgt b) := ((At.new _ (by simp)).old _).old _
  have hR0 : Row ((((w.alloc (Obj.cells (arrK .i64 16 (dgt a)) 26)).alloc (Obj.cells (arrK .i64 16 (dgt b)) 26)).alloc (Obj.cells (arrK .i64 16 fun _ => 0) 26)).alloc (Obj.cells (arrK .i64 17 fun _ => 0) 114)) (w.heap.size + 1 + 1) 16 := ((At.new (k := .i64) (f := fun _ => 0) _ (by simp)).old _).row
  have hT0 : At ((((w.alloc (Obj.cells (arrK .i64 16 (dgt a)) 26)).alloc (Obj.cells (arrK .i64 16 (dgt b)) 26)).alloc (Obj.cells (arrK .i64 16 fun _ => 0) 26)).alloc (Obj.cells (arrK .i64 17 fun _ => 0) 114)) (w.heap.size + 1 + 1 + 1) .i64 17 (mixD F 0) := (At.new _ (by simp)).congr fun i _ => by simp [mixD]
  have hL := Lib.hid hL0
  have hR := Lib.hid hR0
  have hA := Lib.hid hA0
  have hB := Lib.hid hB0
  have hT := Lib.hid hT0
  clear hL0 hR0 hA0 hB0 hT0
  go_enter Try.func23, Try.ntmps23
  go_wp2_with fail
  generalize (((w.alloc _).alloc _).alloc _).alloc _ = W0 at *
  go_loopw [8] (fun i wr => ∃ s : Nat, i = .int .i64 s ∧ s ≤ 16 ∧ Hid (At wr w.heap.size .i64 16 (dgt a)) ∧ Hid (At wr (w.heap.size + 1) .i64 16 (dgt b)) ∧ Hid (Row wr (w.heap.size + 1 + 1) 16) ∧ Hid (At wr (w.heap.size + 1 + 1 + 1) .i64 17 (mixD F s)) ∧ Hid (Below w.heap.size w wr)) (fun i _ => 16 - (intOf i).toNat)
  case atStart => exact ⟨0, rfl, by omega, hA, hB, hR, hT, hL⟩
  case round =>
    clear hA hB hR hT hL
    obtain ⟨s, rfl, hs, hA, hB, hR, hT, hL⟩ := hrel
    by_cases h16 : s = 16
    · subst h16
      have hTc := hT.out.congr (f' := cut16 F) (mixD16 F)
      have hr1 := hTc.row
      have hr2 := hTc.eq
      rw [show ((16 : Nat) : Int) = 16 from rfl]
      clear hA hB hT
      go_wp2_with fail
      refine (hle.out _).mono ?_
      rintro e w2 ⟨rfl, hbz⟩
      have hR2 := row_below hR.out hbz hR.out.lt
      have hL2 := Lib.hid (below_step hbz hL.out (Nat.le_refl _))
      have hcv := arrK_cells .i64 16 (dgt V)
      clear hr1 hr2 hbz hTc hR hL
      dsimp only
      go_wp2_with fail
      exact ret_stored (p := 4) (ty := 26) (g := w.heap.size + 1 + 1) (n := 16) (c := arrK .i64 16 (dgt V)) rfl Try.underlying26 rfl (by kernel_rfl) rfl hR2 hcv.1 rfl ⟨rfl, below_setRow hL2.out (by omega)⟩
    · have hs16 : (s : Int) < 16 := by omega
      have hs17 : (s : Int) < 17 := by omega
      have ca := hA.out.cell (i := s) (by omega)
      have cb := hB.out.cell (i := s) (by omega)
      have ct := hT.out.cell (i := s) (by omega)
      have ft := hT.out.row.frozen s
      have hb := hF.out s
      have hx := hFx.out s
      have hA2 : Hid (At (wr.setCell ⟨w.heap.size + 1 + 1 + 1, s, none⟩ (.int .i64 (F s : Nat))) w.heap.size .i64 16 (dgt a)) := Lib.hid (hA.out.farC (by simp <;> omega))
      have hB2 : Hid (At (wr.setCell ⟨w.heap.size + 1 + 1 + 1, s, none⟩ (.int .i64 (F s : Nat))) (w.heap.size + 1) .i64 16 (dgt b)) := Lib.hid (hB.out.farC (by simp <;> omega))
      have hT2 := Lib.hid ((hT.out.set s (F s)).congr fun p _ => mixD_step F s p)
      have hR2 : Hid (Row (wr.setCell ⟨w.heap.size + 1 + 1 + 1, s, none⟩ (.int .i64 (F s : Nat))) (w.heap.size + 1 + 1) 16) := Lib.hid (row_setCell.2 hR.out)
      have hL2 := Lib.hid (show Below w.heap.size w (wr.setCell ⟨w.heap.size + 1 + 1 + 1, s, none⟩ (.int .i64 (F s : Nat))) from hL.out.setCell (by simp <;> omega) _)
      have hax := dgt_lt a s
      have hbx := dgt_lt b s
      clear hA hB hR hT hL
      generalize mixD F s s = yy at *
      generalize F s = x at *
      generalize dgt a s = x1 at *
      generalize dgt b s = x2 at *
      by_cases h0 : s = 0
      · have hm : 4 * pdig s = 262068 := by rw [h0]; rfl
        have t0 : ((s : Int) == 0) = true := by rw [beq_iff_eq]; omega
        have t15 : ((s : Int) == 15) = false := by rw [beq_eq_false_iff_ne]; omega
        clear h0
        rw [hm] at hx hb
        have hw1 : IntKind.i64.wrap ((x1 : Int) + 262068) = (x1 : Int) + 262068 := by rw [IntKind.wrap_i64]; omega
        have hw2 : IntKind.i64.wrap ((x1 : Int) + 262068 - (x2 : Int)) = (x : Int) := by rw [IntKind.wrap_i64]; omega
        clear hx hb hm hax hbx
        go_wp2
        go_region
        all_goals
          go_wp2_with fail
          go_roundw
          case rel => exact ⟨s + 1, by go_num, by omega, Lib.hid hA2.out.drew, Lib.hid hB2.out.drew, Lib.hid hR2.out.drew, Lib.hid hT2.out.drew, Lib.hid hL2.out.drew⟩
          case measure => simp [intOf]; omega
      · have t0 : ((s : Int) == 0) = false := by rw [beq_eq_false_iff_ne]; omega
        by_cases h15 : s = 15
        · have hm : 4 * pdig s = 131068 := by rw [h15]; rfl
          have t15 : ((s : Int) == 15) = true := by rw [beq_iff_eq]; omega
          clear h0 h15
          rw [hm] at hx hb
          have hw1 : IntKind.i64.wrap ((x1 : Int) + 131068) = (x1 : Int) + 131068 := by rw [IntKind.wrap_i64]; omega
          have hw2 : IntKind.i64.wrap ((x1 : Int) + 131068 - (x2 : Int)) = (x : Int) := by rw [IntKind.wrap_i64]; omega
          clear hx hb hm hax hbx
          go_wp2
          go_region
          all_goals
            go_wp2_with fail
            go_roundw
            case rel => exact ⟨s + 1, by go_num, by omega, Lib.hid hA2.out.drew, Lib.hid hB2.out.drew, Lib.hid hR2.out.drew, Lib.hid hT2.out.drew, Lib.hid hL2.out.drew⟩
            case measure => simp [intOf]; omega
        · have hm : 4 * pdig s = 262140 := by unfold pdig; rw [if_neg h0, if_neg h15]
          have t15 : ((s : Int) == 15) = false := by rw [beq_eq_false_iff_ne]; omega
          rw [hm] at hx hb
          have hw1 : IntKind.i64.wrap ((x1 : Int) + 262140) = (x1 : Int) + 262140 := by rw [IntKind.wrap_i64]; omega
          have hw2 : IntKind.i64.wrap ((x1 : Int) + 262140 - (x2 : Int)) = (x : Int) := by rw [IntKind.wrap_i64]; omega
          clear hx hb hm hax hbx
          go_wp2
          go_region
          all_goals
            go_wp2_with fail
            go_roundw
            case rel => exact ⟨s + 1, by go_num, by omega, Lib.hid hA2.out.drew, Lib.hid hB2.out.drew, Lib.hid hR2.out.drew, Lib.hid hT2.out.drew, Lib.hid hL2.out.drew⟩
            case measure => simp [intOf]; omega
end Go.Proofs.Ytodcjeaannfbnaa
namespace Go.Proofs.Ytodcjeaannfbnaa
open Go.ChangeShapes Go.WideShapes Go.ChangeAt Go.RowKit
set_option maxHeartbeats 2000000
set_option maxRecDepth 100000
theorem zeroT32 : #[Value.int IntKind.i64 0, Value.int IntKind.i64 0, Value.int IntKind.i64 0, Value.int IntKind.i64 0, Value.int IntKind.i64 0, Value.int IntKind.i64 0, Value.int IntKind.i64 0, Value.int IntKind.i64 0, Value.int IntKind.i64 0, Value.int IntKind.i64 0, Value.int IntKind.i64 0, Value.int IntKind.i64 0, Value.int IntKind.i64 0, Value.int IntKind.i64 0, Value.int IntKind.i64 0, Value.int IntKind.i64 0, Value.int IntKind.i64 0, Value.int IntKind.i64 0, Value.int IntKind.i64 0, Value.int IntKind.i64 0, Value.int IntKind.i64 0, Value.int IntKind.i64 0, Value.int IntKind.i64 0, Value.int IntKind.i64 0, Value.int IntKind.i64 0, Value.int IntKind.i64 0, Value.int IntKind.i64 0, Value.int IntKind.i64 0, Value.int IntKind.i64 0, Value.int IntKind.i64 0, Value.int IntKind.i64 0, Value.int IntKind.i64 0] = arrK .i64 32 fun _ => 0 := by kernel_rfl
attribute [local go_sem ↓] load_fe store_fe execl_fe execs_fe load_t17 store_t17 execl_t17 execs_t17
attribute [local go_sem] isHead_mk blkOf_mk isAgg_mk cellsV_mk row_drew rowAt_drew row_new_cells row_old rowAt_new rowAt_old setRow_new zeroFe zeroT
attribute [local go_sem] zeroT32
theorem dval_split (f : Nat → Nat) (m n : Nat) : dval f (m + n) = dval f m + 65536 ^ m * dval (fun j => f (j + m)) n := by
  induction n with
  | zero => simp [dval]
  | succ n ih => rw [← Nat.add_assoc, dval, ih, dval, Nat.mul_add, Nat.pow_add, Nat.mul_assoc, Nat.add_comm n m]; omega
theorem dval_upd (f : Nat → Nat) (j v : Nat) : ∀ n, j < n → dval (upd f j v) n + 65536 ^ j * f j = dval f n + 65536 ^ j * v
  | 0, h => by omega
  | n + 1, h => by
    by_cases e : j = n
    · subst e
      have h1 : dval (upd f j v) j = dval f j := dval_congr fun i hi => by unfold upd; rw [if_neg (by omega)]
      rw [dval, dval, h1]
      unfold upd
      rw [if_pos rfl]
      omega
    · have ih := dval_upd f j v n (by omega)
      rw [dval, dval, show upd f j v n = f n by unfold upd; rw [if_neg (by omega)]]
      omega
/-- What stands in p while the product is made: row i, up to place k. -/
structure ByI (a b i k : Nat) (p : Nat → Nat) : Prop where
  val : dval p 32 = a % 65536 ^ i * b + 65536 ^ i * dgt a i * (b % 65536 ^ k)
  le : ∀ j, p j ≤ (16 * i + k) * 4294836225
theorem ByI.start (a b : Nat) : ByI a b 0 0 fun _ => 0 := by
  have h : ∀ n, dval (fun _ => 0) n = 0 := fun n => by induction n with
    | zero => rfl
    | succ n ih => simp [dval, ih]
  exact ⟨by rw [h, Nat.pow_zero, Nat.mod_one, Nat.mod_one]; simp, fun _ => Nat.zero_le _⟩
theorem dgt_up (b k : Nat) : b % 65536 ^ (k + 1) = b % 65536 ^ k + 65536 ^ k * dgt b k := by unfold dgt; rw [Nat.pow_succ, Nat.mod_mul]
theorem ByI.step {a b i k : Nat} {p : Nat → Nat} (h : ByI a b i k p) (hi : i < 16) (hk : k < 16) : ByI a b i (k + 1) (upd p (i + k) (p (i + k) + dgt a i * dgt b k)) := by
  refine ⟨?_, fun j => ?_⟩
  · have h1 := dval_upd p (i + k) (p (i + k) + dgt a i * dgt b k) 32 (by omega)
    have h2 := h.val
    rw [Nat.mul_add (65536 ^ (i + k))] at h1
    rw [dgt_up, Nat.mul_add, show 65536 ^ i * dgt a i * (65536 ^ k * dgt b k) = 65536 ^ (i + k) * (dgt a i * dgt b k) by rw [Nat.pow_add]; simp only [Nat.mul_assoc, Nat.mul_left_comm]]
    omega
  · have h1 : dgt a i * dgt b k ≤ 4294836225 := Nat.le_trans (Nat.mul_le_mul (show dgt a i ≤ 65535 by have := dgt_lt a i; omega) (show dgt b k ≤ 65535 by have := dgt_lt b k; omega)) (by decide)
    have h2 := h.le j
    have h3 := h.le (i + k)
    rw [← Nat.add_assoc, Nat.add_mul _ 1, Nat.one_mul]
    unfold upd
    generalize (16 * i + k) * 4294836225 = M at *
    generalize dgt a i * dgt b k = q at *
    by_cases e : j = i + k
    · rw [if_pos e]; omega
    · rw [if_neg e]; omega
theorem ByI.row {a b i : Nat} {p : Nat → Nat} (h : ByI a b i 16 p) (hb : b < 2 ^ 256) : ByI a b (i + 1) 0 p := by
  refine ⟨?_, fun j => by have := h.le j; omega⟩
  rw [h.val, p16, Nat.mod_eq_of_lt hb, dgt_up, Nat.pow_zero, Nat.mod_one, Nat.mul_zero, Nat.add_zero, Nat.add_mul]
/-- The folded digits. -/
def byG (p : Nat → Nat) (i : Nat) : Nat := p i + 38 * p (i + 16)
theorem byG_val {a b : Nat} {p : Nat → Nat} (h : ByI a b 16 0 p) (ha : a < 2 ^ 256) : dval (byG p) 16 % fP = a * b % fP := by
  have h1 := h.val
  rw [p16, Nat.mod_eq_of_lt ha, Nat.pow_zero, Nat.mod_one, Nat.mul_zero, Nat.add_zero, show (32 : Nat) = 16 + 16 from rfl, dval_split, p16] at h1
  have h2 : ∀ n, dval (byG p) n = dval p n + 38 * dval (fun j => p (j + 16)) n := fun n => by
    induction n with
    | zero => rfl
    | succ n ih => simp only [dval]; rw [ih]; unfold byG; rw [Nat.mul_add, Nat.mul_left_comm (65536 ^ n)]; omega
  rw [h2, ← h1, fold_P]
theorem byG_le {a b : Nat} {p : Nat → Nat} (h : ByI a b 16 0 p) (i : Nat) : byG p i ≤ 42880364870400 := by
  have h1 := h.le i
  have h2 := h.le (i + 16)
  unfold byG
  omega
/-- The digits that least is handed. -/
def byT (G : Nat → Nat) (i : Nat) : Nat := if i < 16 then lout G 0 i else lcar G 0 16
theorem byG_car {G : Nat → Nat} (h : ∀ i, G i ≤ 42880364870400) : ∀ k, lcar G 0 k ≤ 42880364870400
  | 0 => Nat.zero_le _
  | k + 1 => by
    have h1 := byG_car h k
    have h2 := h k
    unfold lcar; omega
theorem byT_tame {G : Nat → Nat} (h : ∀ i, G i ≤ 42880364870400) : Tame (byT G) := by
  intro i _
  have h1 := byG_car h 16
  unfold byT
  split
  · exact Nat.lt_trans (lout_lt _ _ _) (by omega)
  · omega
theorem byT_val (G : Nat → Nat) : dval (byT G) 16 + 2 ^ 256 * byT G 16 = dval G 16 := by
  have h := lout_dval G 0 16
  rw [p16] at h
  rw [dval_congr (f := byT G) (g := lout G 0) fun i hi => by unfold byT; rw [if_pos hi], show byT G 16 = lcar G 0 16 from rfl]
  exact h
theorem byT_end (G : Nat → Nat) (p : Nat) (hp : p < 17) : upd (mixD (lout G 0) 16) 16 (lcar G 0 16) p = byT G p := by
  unfold upd mixD byT
  by_cases h : p = 16
  · subst h; simp
  · simp [h, show p < 16 by omega]
theorem load_t32 {w : World} {dst : Option Tmp} {x : Operand} {tt : TypeId} {pos : String} {af : Array Edge} {gd : Option (Nat × Bool)} {a : Act} {K : Act → World → Prop} {Q : Exit → Act → World → Prop}
    (hv : IsHead (a.eval x)) (h : Row w (blkOf (a.eval x)) 32) : Oper.wp Try.prog ⟨dst, .load 120 x, tt, pos, af, gd⟩ a w K Q ↔ K (a.put dst (.agg (rowAt w (blkOf (a.eval x))))) w :=
  wp_load_whole Try.underlying120 rfl (by kernel_rfl) hv h
theorem store_t32 {w : World} {dst : Option Tmp} {x y : Operand} {tt : TypeId} {pos : String} {af : Array Edge} {gd : Option (Nat × Bool)} {a : Act} {K : Act → World → Prop} {Q : Exit → Act → World → Prop}
    (hv : IsHead (a.eval x)) (h : Row w (blkOf (a.eval x)) 32) (hx : IsAgg (a.eval y) 32) : Oper.wp Try.prog ⟨dst, .store 120 x y, tt, pos, af, gd⟩ a w K Q ↔ K (a.put dst undef) (w.setRow (blkOf (a.eval x)) (cellsV (a.eval y))) :=
  wp_store_whole (by kernel_rfl) hv h hx
theorem execl_t32 {w : World} {dst : Option Tmp} {x : Operand} {tt : TypeId} {pos : String} {af : Array Edge} {gd : Option (Nat × Bool)} {ρ : Operand → Value}
    (hv : IsHead (ρ x)) (h : Row w (blkOf (ρ x)) 32) : (execOp ρ ⟨dst, .load 120 x, tt, pos, af, gd⟩).run Try.prog w = .ok (.value (.agg (rowAt w (blkOf (ρ x))))) w :=
  exec_load_whole Try.underlying120 rfl (by kernel_rfl) hv h
theorem execs_t32 {w : World} {dst : Option Tmp} {x y : Operand} {tt : TypeId} {pos : String} {af : Array Edge} {gd : Option (Nat × Bool)} {ρ : Operand → Value}
    (hv : IsHead (ρ x)) (h : Row w (blkOf (ρ x)) 32) (hx : IsAgg (ρ y) 32) : (execOp ρ ⟨dst, .store 120 x y, tt, pos, af, gd⟩).run Try.prog w = .ok .skip (w.setRow (blkOf (ρ x)) (cellsV (ρ y))) :=
  exec_store_whole (by kernel_rfl) hv h hx

attribute [local go_sem ↓] load_t32 store_t32
theorem fe_By (a b : Nat) (w : World) (ha : a < 2 ^ 256) (hb : b < 2 ^ 256) : Calls Try.prog 25 #[feV a, feV b] w fun e w' => e = .returned (feV (a * b % fP)) ∧ Below w.heap.size w w' := by
  have hle := Lib.hid (fun G (h : ∀ i, G i ≤ 42880364870400) V => ref_least (byT G) V (byT_tame h))
  have hval := Lib.hid (fun p (h : ByI a b 16 0 p) => byG_val h ha)
  have hrow := Lib.hid (fun i p (h : ByI a b i 16 p) => h.row hb)
  have hI0 := Lib.hid (ByI.start a b)
  clear ha hb
  unfold feV at hle ⊢
  have hc0 := arrK_cells .i64 16 fun _ => 0
  have hc1 := arrK_cells .i64 17 fun _ => 0
  have hc2 := arrK_cells .i64 32 fun _ => 0
  have hL0 : Below w.heap.size w ((((w.alloc (Obj.cells (arrK .i64 16 (dgt a)) 26)).alloc (Obj.cells (arrK .i64 16 (dgt b)) 26)).alloc (Obj.cells (arrK .i64 16 fun _ => 0) 26)).alloc (Obj.cells (arrK .i64 32 fun _ => 0) 120)) := by go_grown
  have hA0 : At ((((w.alloc (Obj.cells (arrK .i64 16 (dgt a)) 26)).alloc (Obj.cells (arrK .i64 16 (dgt b)) 26)).alloc (Obj.cells (arrK .i64 16 fun _ => 0) 26)).alloc (Obj.cells (arrK .i64 32 fun _ => 0) 120)) w.heap.size .i64 16 (dgt a) := (((At.new _ rfl).old _).old _).old _
  have hB0 : At ((((w.alloc (Obj.cells (arrK .i64 16 (dgt a)) 26)).alloc (Obj.cells (arrK .i64 16 (dgt b)) 26)).alloc (Obj.cells (arrK .i64 16 fun _ => 0) 26)).alloc (Obj.cells (arrK .i64 32 fun _ => 0) 120)) (w.heap.size + 1) .i64 16 (dgt b) := ((At.new _ (by simp)).old _).old _
  have hR0 : Row ((((w.alloc (Obj.cells (arrK .i64 16 (dgt a)) 26)).alloc (Obj.cells (arrK .i64 16 (dgt b)) 26)).alloc (Obj.cells (arrK .i64 16 fun _ => 0) 26)).alloc (Obj.cells (arrK .i64 32 fun _ => 0) 120)) (w.heap.size + 1 + 1) 16 := ((At.new (k := .i64) (f := fun _ => 0) _ (by simp)).old _).row
  have hP0 : At ((((w.alloc (Obj.cells (arrK .i64 16 (dgt a)) 26)).alloc (Obj.cells (arrK .i64 16 (dgt b)) 26)).alloc (Obj.cells (arrK .i64 16 fun _ => 0) 26)).alloc (Obj.cells (arrK .i64 32 fun _ => 0) 120)) (w.heap.size + 1 + 1 + 1) .i64 32 (fun _ => 0) := At.new _ (by simp)
  have hL := Lib.hid hL0
  have hR := Lib.hid hR0
  have hA := Lib.hid hA0
  have hB := Lib.hid hB0
  have hP := Lib.hid hP0
  clear hL0 hR0 hA0 hB0 hP0
  go_enter Try.func25, Try.ntmps25
  go_wp2_with fail
  generalize (((w.alloc _).alloc _).alloc _).alloc _ = W0 at *
  go_loopw [11] (fun i wr => ∃ (s : Nat) (p : Nat → Nat), i = .int .i64 s ∧ s ≤ 16 ∧ Hid (ByI a b s 0 p) ∧ Hid (At wr w.heap.size .i64 16 (dgt a)) ∧ Hid (At wr (w.heap.size + 1) .i64 16 (dgt b)) ∧ Hid (Row wr (w.heap.size + 1 + 1) 16) ∧ Hid (At wr (w.heap.size + 1 + 1 + 1) .i64 32 p) ∧ Hid (Below w.heap.size w wr)) (fun i _ => 16 - (intOf i).toNat)
  case atStart => exact ⟨0, _, rfl, by omega, hI0, hA, hB, hR, hP, hL⟩
  case round =>
    clear hI0 hA hB hR hP hL
    obtain ⟨s, p, rfl, hs, hI, hA, hB, hR, hP, hL⟩ := hrel
    by_cases h16 : s = 16
    · subst h16
      rw [show ((16 : Nat) : Int) = 16 from rfl]
      have hcG := Lib.hid (byG_le hI.out)
      have hvG := hval.out p hI.out
      have hcar := Lib.hid (byG_car hcG.out)
      have hle2 := Lib.hid (hle.out (byG p) hcG.out)
      rw [byT_val, hvG] at hle2
      obtain ⟨V, hV⟩ : ∃ V, a * b % fP = V := ⟨_, rfl⟩
      rw [hV] at hle2
      have hVV := Lib.hid hV
      have hpl := Lib.hid hI.out.le
      have hGx := Lib.hid (fun i => show byG p i = p i + 38 * p (i + 16) from rfl)
      have hbe := Lib.hid (byT_end (byG p))
      clear hV hvG hle hval hrow hI
      obtain ⟨G, hG⟩ : ∃ G, byG p = G := ⟨_, rfl⟩
      rw [hG] at hGx hcG hcar hle2 hbe
      clear hG
      have hR1 := Lib.hid ((row_old (o := Obj.cells (arrK .i64 17 fun _ => 0) 114) hR.out.lt).2 hR.out)
      have hL1 := Lib.hid (Below.trans hL.out ((below_alloc wr (Obj.cells (arrK .i64 17 fun _ => 0) 114)).mono hL.out.size))
      have hP1 := Lib.hid (hP.out.old (Obj.cells (arrK .i64 17 fun _ => 0) 114))
      have hT1 := Lib.hid ((At.new (w := wr) (k := .i64) (m := 17) (f := fun _ => 0) 114 rfl).congr (f' := mixD (lout G 0) 0) fun i _ => by simp [mixD])
      have hlt := hP.out.lt
      clear hA hB hR hL hP
      go_wp2_with fail
      obtain ⟨g, hg⟩ : ∃ g, wr.heap.size = g := ⟨_, rfl⟩
      rw [hg] at hT1 hlt ⊢
      clear hg
      generalize wr.alloc _ = W1 at *
      go_loopw [9, 33] (fun c i wr => ∃ s : Nat, i = .int .i64 s ∧ s ≤ 16 ∧ c = .int .i64 (lcar G 0 s : Nat) ∧ Hid (Row wr (w.heap.size + 1 + 1) 16) ∧ Hid (At wr (w.heap.size + 1 + 1 + 1) .i64 32 p) ∧ Hid (At wr g .i64 17 (mixD (lout G 0) s)) ∧ Hid (Below w.heap.size w wr)) (fun _ i _ => 16 - (intOf i).toNat)
      case atStart => exact ⟨0, rfl, by omega, rfl, hR1, hP1, hT1, hL1⟩
      case round =>
        clear hR1 hP1 hT1 hL1
        obtain ⟨s, rfl, hs, rfl, hR, hP, hT, hL⟩ := hrel
        by_cases h16 : s = 16
        · subst h16
          rw [show ((16 : Nat) : Int) = 16 from rfl]
          have ct := hT.out.cell (i := 16) (by omega)
          have ft := hT.out.row.frozen 16
          have hT2 := Lib.hid ((hT.out.set 16 (lcar G 0 16)).congr hbe.out)
          have hR2 : Hid (Row (wr.setCell ⟨g, 16, none⟩ (.int .i64 (lcar G 0 16 : Nat))) (w.heap.size + 1 + 1) 16) := Lib.hid (row_setCell.2 hR.out)
          have hL2 := Lib.hid (show Below w.heap.size w (wr.setCell ⟨g, 16, none⟩ (.int .i64 (lcar G 0 16 : Nat))) from hL.out.setCell (by simp <;> omega) _)
          clear hT hR hL hP hbe hcG hcar hpl hGx
          generalize lcar G 0 16 = cc at *
          generalize mixD (lout G 0) 16 16 = yy at *
          go_upto_region 21 with (fail)
          generalize wr.setCell _ _ = W2 at *
          have hr1 := hT2.out.row
          have hr2 := hT2.out.eq
          go_wp2_with fail
          refine (hle2.out _).mono ?_
          rintro e w2 ⟨rfl, hbz⟩
          have hR3 := row_below hR2.out hbz hR2.out.lt
          have hL3 := Lib.hid (below_step hbz hL2.out (Nat.le_refl _))
          have hcv := arrK_cells .i64 16 (dgt V)
          clear hr1 hr2 hbz hT2 hR2 hL2
          dsimp only
          go_wp2_with fail
          exact ret_stored (p := 4) (ty := 26) (g := w.heap.size + 1 + 1) (n := 16) (c := arrK .i64 16 (dgt V)) rfl Try.underlying26 rfl (by kernel_rfl) rfl hR3 hcv.1 rfl ⟨by rw [hVV.out], below_setRow hL3.out (by omega)⟩
        · have hs16 : (s : Int) < 16 := by omega
          have hs17 : (s : Int) < 17 := by omega
          have hs32 : (s : Int) < 32 := by omega
          have hs3 : (s : Int) + 16 < 32 := by omega
          have hs0 : (0 : Int) ≤ (s : Int) + 16 := by omega
          have hsn : ((s : Int) + 16).toNat = s + 16 := by omega
          have c1 := hP.out.cell (i := s) (by omega)
          have c2 := hP.out.cell (i := s + 16) (by omega)
          have ct := hT.out.drew.cell (i := s) (by omega)
          have ft := hT.out.drew.row.frozen s
          have hl := hcar.out s
          have hb := hcG.out s
          have hp1 := hpl.out s
          have hp2 := hpl.out (s + 16)
          have hgx := hGx.out s
          have hn1 := Lib.hid (show lcar G 0 (s + 1) = (lcar G 0 s + G s) / 65536 from rfl)
          have hn2 := Lib.hid (show lout G 0 s = (lcar G 0 s + G s) % 65536 from rfl)
          have hT2 := Lib.hid ((hT.out.drew.set s (lout G 0 s)).congr fun p _ => mixD_step (lout G 0) s p)
          have hP2 : Hid (At (wr.drew.setCell ⟨g, s, none⟩ (.int .i64 (lout G 0 s : Nat))) (w.heap.size + 1 + 1 + 1) .i64 32 p) := Lib.hid (hP.out.drew.farC (by simp <;> omega))
          have hR2 : Hid (Row (wr.drew.setCell ⟨g, s, none⟩ (.int .i64 (lout G 0 s : Nat))) (w.heap.size + 1 + 1) 16) := Lib.hid (row_setCell.2 hR.out.drew)
          have hL2 := Lib.hid (show Below w.heap.size w (wr.drew.setCell ⟨g, s, none⟩ (.int .i64 (lout G 0 s : Nat))) from hL.out.drew.setCell (by simp <;> omega) _)
          rw [hn2.out] at hT2 hP2 hR2 hL2
          obtain ⟨x, hx⟩ : ∃ x, lcar G 0 s + G s = x := ⟨_, rfl⟩
          rw [hx] at hn1 hT2 hP2 hR2 hL2
          rw [show ((x % 65536 : Nat) : Int) = (x : Int) % 65536 from by omega] at hT2 hP2 hR2 hL2
          have hw0 : IntKind.i64.wrap (38 * (p (s + 16) : Int)) = 38 * (p (s + 16) : Int) := by rw [IntKind.wrap_i64]; omega
          have hw1 : IntKind.i64.wrap ((p s : Int) + 38 * (p (s + 16) : Int)) = (G s : Int) := by rw [IntKind.wrap_i64]; omega
          have hw2 : IntKind.i64.wrap ((lcar G 0 s : Int) + (G s : Int)) = (x : Int) := by rw [IntKind.wrap_i64]; omega
          have hw3 : IntKind.i64.wrap ((s : Int) + 16) = (s : Int) + 16 := by rw [IntKind.wrap_i64]; omega
          have hand := num_andM (a := x) (by omega)
          have hxb : x < 9223372036854775808 := by omega
          clear hx hT hR hL hP hn2 hl hb hp1 hp2 hgx
          generalize lcar G 0 s = c at *
          generalize mixD (lout G 0) s s = yy at *
          obtain ⟨gs, hgs⟩ : ∃ x, G s = x := ⟨_, rfl⟩
          rw [hgs] at hw1 hw2
          clear hgs
          go_wp2
          go_region
          all_goals
            go_wp2_with fail
            go_roundw
            case rel => exact ⟨s + 1, by go_num, by omega, congrArg (Value.int .i64) (by rw [hn1.out]; omega), hR2, hP2, hT2, hL2⟩
            case measure => simp [intOf]; omega
    · have hs16 : (s : Int) < 16 := by omega
      clear hle hval
      go_wp2_with fail
      go_loopw [14] (fun i wr => ∃ (k : Nat) (p : Nat → Nat), i = .int .i64 k ∧ k ≤ 16 ∧ Hid (ByI a b s k p) ∧ Hid (At wr w.heap.size .i64 16 (dgt a)) ∧ Hid (At wr (w.heap.size + 1) .i64 16 (dgt b)) ∧ Hid (Row wr (w.heap.size + 1 + 1) 16) ∧ Hid (At wr (w.heap.size + 1 + 1 + 1) .i64 32 p) ∧ Hid (Below w.heap.size w wr)) (fun i _ => 16 - (intOf i).toNat)
      case atStart => exact ⟨0, p, rfl, by omega, hI, hA, hB, hR, hP, hL⟩
      case round =>
        clear hI hA hB hR hP hL p
        obtain ⟨k, p, rfl, hk, hI, hA, hB, hR, hP, hL⟩ := hrel
        by_cases hk16 : k = 16
        · subst hk16
          rw [show ((16 : Nat) : Int) = 16 from rfl]
          have hI2 := Lib.hid (hrow.out s p hI.out)
          clear hrow
          go_wp2_with fail
          go_roundw
          case rel => exact ⟨s + 1, p, by go_num, by omega, hI2, hA, hB, hR, hP, hL⟩
          case measure => simp [intOf]; omega
        · have hk0 : (k : Int) < 16 := by omega
          have hI2 := Lib.hid (hI.out.step (by omega) (by omega))
          have hpb := hI.out.le (s + k)
          have hpb2 := hI2.out.le (s + k)
          rw [show upd p (s + k) (p (s + k) + dgt a s * dgt b k) (s + k) = p (s + k) + dgt a s * dgt b k by unfold upd; rw [if_pos rfl]] at hpb2
          have ca := hA.out.cell (i := s) (by omega)
          have cb := hB.out.cell (i := k) (by omega)
          have cp := hP.out.cell (i := s + k) (by omega)
          have fp := hP.out.row.frozen (s + k)
          have hax := dgt_lt a s
          have hbx := dgt_lt b k
          have hm1 : dgt a s * dgt b k ≤ 65535 * 65535 := Nat.mul_le_mul (by omega) (by omega)
          obtain ⟨v, hv⟩ : ∃ v, p (s + k) + dgt a s * dgt b k = v := ⟨_, rfl⟩
          rw [hv] at hI2 hpb2
          have hA2 : Hid (At (wr.setCell ⟨w.heap.size + 1 + 1 + 1, s + k, none⟩ (.int .i64 (v : Nat))) w.heap.size .i64 16 (dgt a)) := Lib.hid (hA.out.farC (by simp <;> omega))
          have hB2 : Hid (At (wr.setCell ⟨w.heap.size + 1 + 1 + 1, s + k, none⟩ (.int .i64 (v : Nat))) (w.heap.size + 1) .i64 16 (dgt b)) := Lib.hid (hB.out.farC (by simp <;> omega))
          have hP2 := Lib.hid (hP.out.set (s + k) v)
          have hR2 : Hid (Row (wr.setCell ⟨w.heap.size + 1 + 1 + 1, s + k, none⟩ (.int .i64 (v : Nat))) (w.heap.size + 1 + 1) 16) := Lib.hid (row_setCell.2 hR.out)
          have hL2 := Lib.hid (show Below w.heap.size w (wr.setCell ⟨w.heap.size + 1 + 1 + 1, s + k, none⟩ (.int .i64 (v : Nat))) from hL.out.setCell (by simp <;> omega) _)
          obtain ⟨m, hm⟩ : ∃ m, dgt a s * dgt b k = m := ⟨_, rfl⟩
          rw [hm] at hv hm1
          have hmi : ((dgt a s : Int) * (dgt b k : Int)) = (m : Int) := by rw [← hm]; simp
          have hw0 : IntKind.i64.wrap ((dgt a s : Int) * (dgt b k : Int)) = (m : Int) := by rw [hmi, IntKind.wrap_i64]; omega
          have hw1 : IntKind.i64.wrap ((p (s + k) : Int) + (m : Int)) = (v : Int) := by rw [IntKind.wrap_i64]; omega
          have hw2 : IntKind.i64.wrap ((s : Int) + k) = (s : Int) + k := by rw [IntKind.wrap_i64]; omega
          have hw3 : (0 : Int) ≤ (s : Int) + k := by omega
          have hw4 : (s : Int) + k < 32 := by omega
          have hw5 : ((s : Int) + k).toNat = s + k := by omega
          clear hv hm hmi hm1 hpb hpb2 hax hbx hA hB hP hR hL hI hrow
          generalize p (s + k) = x0 at *
          generalize dgt a s = x1 at *
          generalize dgt b k = x2 at *
          go_wp2
          go_region
          all_goals
            go_wp2_with fail
            go_roundw
            case rel => exact ⟨k + 1, _, by go_num, by omega, hI2, Lib.hid hA2.out.drew, Lib.hid hB2.out.drew, Lib.hid hR2.out.drew, Lib.hid hP2.out.drew, Lib.hid hL2.out.drew⟩
            case measure => simp [intOf]; omega
end Go.Proofs.Ytodcjeaannfbnaa
namespace Go.Proofs.Ytodcjeaannfbnaa
open Go.ChangeShapes Go.WideShapes Go.ChangeAt Go.RowKit
set_option maxHeartbeats 1000000
set_option maxRecDepth 100000

/-- A number whose digits lie at block B or behind. -/
def IsNF (w : World) (B : Nat) (v : Value) (n : Nat) : Prop := ∃ A l c, v = .slice A l.length c ∧ Ds w A l c ∧ Dg l n ∧ ∀ ad, A = some ad → B ≤ ad.block
def RetNF (n : Nat) (w : World) (e : Ending) (w' : World) : Prop := ∃ v, e = .returned v ∧ IsNF w' w.heap.size v n ∧ Below w.heap.size w w'
theorem IsNF.toN {w : World} {B : Nat} {v : Value} {n : Nat} (h : IsNF w B v n) : IsN w v n := by
  obtain ⟨A, l, c, e, h1, h2, -⟩ := h
  exact ⟨A, l, c, e, h1, h2⟩
theorem IsNF.mono {w : World} {B B' : Nat} {v : Value} {n : Nat} (h : IsNF w B v n) (hB : B' ≤ B) : IsNF w B' v n := by
  obtain ⟨A, l, c, e, h1, h2, h3⟩ := h
  exact ⟨A, l, c, e, h1, h2, fun ad ha => Nat.le_trans hB (h3 ad ha)⟩
theorem IsNF.step {w w' : World} {B : Nat} {v : Value} {n : Nat} (hb : Below w.heap.size w w') (h : IsNF w B v n) : IsNF w' B v n := by
  obtain ⟨A, l, c, e, h1, h2, h3⟩ := h
  exact ⟨A, l, c, e, h1.below hb (Nat.le_refl _), h2, h3⟩
theorem IsNF.setCell {w : World} {B : Nat} {v : Value} {n : Nat} (h : IsNF w B v n) {a : Addr} (ha : a.block < B) (u : Value) : IsNF (w.setCell a u) B v n := by
  obtain ⟨A, l, c, e, h1, h2, h3⟩ := h
  refine ⟨A, l, c, e, ⟨fun j x hx => ?_, h1.sm, h1.le, h1.mx⟩, h2, h3⟩
  obtain ⟨ad, e1, hl, hc⟩ := h1.rd j x hx
  refine ⟨ad, e1, by simpa using hl, ?_⟩
  have hne : (ad.add j).block ≠ a.block := by rw [addr_block]; have := h3 ad e1; omega
  rw [← hc]
  exact World.cell?_of_block (w := w) (Below.heap_setCell w a u _ hne)
theorem isNF_trim {w0 W : World} {B : Nat} {e : TypeId} {A : Option Addr} {n c k : Nat} {l : List Nat} (h : Own w0 B e (.slice A n c) (digV l) W) (hs : Sm l) (hk : k ≤ l.length) (hg : Dg (l.take k) (val l)) : IsNF W B (.slice A k c) (val l) := by
  obtain ⟨hn, hD⟩ := ds_own h hs
  obtain ⟨A', l', c', e1, h1, h2⟩ := isN_trim hD hk hg
  refine ⟨A', l', c', e1, h1, h2, fun ad ha => ?_⟩
  injection e1 with e1
  subst e1
  exact (h.lt (g := ad.block) (by rw [ha]; rfl)).1

theorem minus_step {l k L : List Nat} {i bo x bo' : Nat} (hL : L.length = i) (hx : bo + x + k[i]?.getD 0 = l[i]?.getD 0 + 65536 * bo') (hv : val L + val (k.take i) = val (l.take i) + 65536 ^ i * bo) :
    val (L ++ [x]) + val (k.take (i + 1)) = val (l.take (i + 1)) + 65536 ^ (i + 1) * bo' := by
  rw [val_snoc, hL, val_take_succ', val_take_succ', Nat.pow_succ, Nat.mul_assoc]
  have h : 65536 ^ i * (bo + x + k[i]?.getD 0) = 65536 ^ i * (l[i]?.getD 0 + 65536 * bo') := by rw [hx]
  rw [Nat.mul_add, Nat.mul_add, Nat.mul_add] at h
  omega
theorem minus_end {l k L : List Nat} {bo : Nat} (hl : Sm l) (hk : Sm k) (hle : val k ≤ val l) (hv : val L + val (k.take l.length) = val l + 65536 ^ l.length * bo) (hL : val L < 65536 ^ l.length) : val L = val l - val k := by
  have h1 := val_lt hl
  have h2 := val_take hk l.length
  rw [Nat.mod_eq_of_lt (by omega)] at h2
  rw [h2] at hv
  rcases Nat.eq_zero_or_pos bo with rfl | h
  · omega
  · have : 65536 ^ l.length * 1 ≤ 65536 ^ l.length * bo := Nat.mul_le_mul_left _ h
    omega

theorem ref_Minus (A : Option Addr) (l : List Nat) (c : Nat) (B : Option Addr) (k : List Nat) (d : Nat) (w : World) (ha : Ds w A l c) (hb : Ds w B k d) (hl : l.length ≤ 1000000) (hle : val k ≤ val l) :
    Calls Try.prog 71 #[.slice A l.length c, .slice B k.length d] w (RetNF (val l - val k) w) := by
  go_enter Try.func71, Try.ntmps71
  go_wp2
  go_loopw [5, 6, 11] (fun v y i wr => ∃ (i' : Nat) (L : List Nat) (bo : Nat), i = .int .i64 i' ∧ y = .int .i64 bo ∧ bo ≤ 1 ∧ Own w w.heap.size 3 v (digV L) wr ∧ L.length ≤ i' ∧ i' ≤ L.length ∧ i' ≤ l.length ∧
    Hid (Sm L ∧ val L + val (k.take i') = val (l.take i') + 65536 ^ i' * bo)) (fun _ _ i _ => l.length - (intOf i).toNat)
  case atStart => exact ⟨0, [], 0, rfl, rfl, by omega, Own.start _ _, by simp, by simp, by omega, Sm.nil, by simp [val]⟩
  case round =>
    obtain ⟨i, L, bo, rfl, rfl, hbo, hO, hl1, hl2, him, hH⟩ := hrel
    rename_i u5
    have hDa := ha.below hO.bel (Nat.le_refl _)
    have hDb := hb.below hO.bel (Nat.le_refl _)
    by_cases hlt : i < l.length
    · have hdb := digZ_lt hb.sm (i : Int)
      obtain ⟨ad, rfl, hbl, hc⟩ := digV_at hDa.rd hlt
      have hla := ha.sm l[i] (List.getElem_mem _)
      have hdz := digZ_nat k i
      have hst := fun x bo' hx => minus_step (x := x) (bo' := bo') (l := l) (k := k) (by omega) hx hH.out.2
      rw [← hdz, List.getElem?_eq_getElem hlt] at hst
      have hHst := Lib.hid hst
      have hcon := Lib.hid (fun W (h : Ds W B k d) => ref_digit B k d (i : Int) W h)
      have hHD := Lib.hid hDb
      clear hst hdz hDb
      generalize digZ k i = y at *
      generalize l[i] = x at *
      have hw1 : IntKind.i64.wrap ((x : Int) - y) = (x : Int) - y := by rw [IntKind.wrap_i64]; omega
      obtain ⟨o, ho⟩ : ∃ o : Int, (x : Int) - y - bo = o := ⟨_, rfl⟩
      have hw2 : IntKind.i64.wrap ((x : Int) - y - bo) = o := by rw [IntKind.wrap_i64]; omega
      have ho1 : -65536 ≤ o := by omega
      have ho2 : o < 65536 := by omega
      have hlL : L.length < 1000000 := by omega
      have hOd := hO.drew
      obtain ⟨X, bo', hX, hX2, hXl, hcase⟩ : ∃ X bo' : Nat, (bo + X + y = x + 65536 * bo') ∧ bo' ≤ 1 ∧ X < 65536 ∧ ((o < 0 ∧ o + 65536 = X ∧ bo' = 1) ∨ (¬ o < 0 ∧ o = X ∧ bo' = 0)) := by
        by_cases h : o < 0
        · exact ⟨(o + 65536).toNat, 1, by omega, by omega, by omega, .inl ⟨h, by omega, rfl⟩⟩
        · exact ⟨o.toNat, 0, by omega, by omega, by omega, .inr ⟨h, by omega, rfl⟩⟩
      have hfin := Lib.hid (hHst.out X bo' hX)
      have hHo := Lib.hid ho
      clear ho hHst hX
      go_wp2
      go_upto_region 6 with (fail)
      go_cut [8] (fun v8 wx => v8 = .int .i64 o ∧ Own w w.heap.size 3 u5 (digV L) wx)
      case first =>
        have hHD := Lib.hid (hHD.out.below (Below.refl wr.heap.size wr).drew (Nat.le_refl _))
        go_region_law (first
          | (go_simp; go_at_call 145; (refine Calls.mono (hcon.out _ hHD.out) ?_); rintro e w' ⟨rfl, rfl⟩))
        all_goals go_wp2_with fail
        all_goals go_meet
        all_goals exact ⟨rfl, hOd⟩
      case rest =>
        clear hOd
        obtain ⟨rfl, hOd⟩ := hcut
        clear hw1 hw2 hc
        rcases hcase with ⟨h0, h1, rfl⟩ | ⟨h0, h1, rfl⟩
        · have hw3 : IntKind.i64.wrap (o + 65536) = (X : Int) := by rw [IntKind.wrap_i64]; omega
          go_wp2_with (at_builtin; refine wpList_own1 (o := ⟨some 31, _, _, _, _, _⟩) rfl (.tmp 28) (.tmp 30) 34 rfl SI rfl hOd (.int .i64 (X : Int)) rfl rfl (by rw [digV_len]; unfold maxLen; omega) (by rw [digV_len]; omega) ?_; intro v1 w1 hO1 hg1 hat1; clear hg1 hat1)
          go_roundw
          case rel => exact ⟨i + 1, L ++ [X], 1, by go_num, rfl, by omega, by rw [digV_snoc]; exact hO1, by simp; omega, by simp; omega, by omega, hH.out.1.append (Sm.one hXl), hfin.out⟩
          case measure => simp [intOf]; omega
        · subst h1
          clear h0 ho1 ho2
          go_wp2_with (at_builtin; refine wpList_own1 (o := ⟨some 31, _, _, _, _, _⟩) rfl (.tmp 28) (.tmp 30) 34 rfl SI rfl hOd (.int .i64 (X : Int)) rfl rfl (by rw [digV_len]; unfold maxLen; omega) (by rw [digV_len]; omega) ?_; intro v1 w1 hO1 hg1 hat1; clear hg1 hat1)
          go_roundw
          case rel => exact ⟨i + 1, L ++ [X], 0, by go_num, rfl, by omega, by rw [digV_snoc]; exact hO1, by simp; omega, by simp; omega, by omega, hH.out.1.append (Sm.one hXl), hfin.out⟩
          case measure => simp [intOf]; omega
    · obtain rfl : i = l.length := by omega
      obtain ⟨A', c', rfl, -, -⟩ := hO.form
      obtain ⟨hn, hD⟩ := ds_own hO hH.out.1
      have hbl := hO.bel
      rw [hn]
      rw [hn] at hO
      have hHO := Lib.hid hO
      have hll := Lib.hid (show L.length = l.length by omega)
      clear hO
      go_wp2_with (go_at_call 146; refine (ref_trim A' L c' _ hD).mono ?_; rintro e w' ⟨q, hq, rfl, hg, rfl⟩)
      go_ret
      have hv := hH.out.2
      rw [List.take_length] at hv
      have hLt := val_lt hH.out.1
      rw [hll.out] at hLt
      have hr := minus_end ha.sm hb.sm hle hv hLt
      exact ⟨_, rfl, hr ▸ isNF_trim hHO.out hH.out.1 hq hg, hbl⟩

theorem order_digit {a b i : Nat} (hlt : a / 65536 ^ (i + 1) = b / 65536 ^ (i + 1)) {x y : Nat} (hx : x = a / 65536 ^ i % 65536) (hy : y = b / 65536 ^ i % 65536) :
    (x < y → order a b = -1) ∧ (y < x → order a b = 1) ∧ (x = y → a / 65536 ^ i = b / 65536 ^ i) := by
  have h := order_step hlt
  rw [← hx, ← hy] at h
  exact ⟨fun e => if_pos (h.1 e), fun e => by unfold order; rw [if_neg (by have := h.2.1 e; omega), if_pos (h.2.1 e)], h.2.2⟩
theorem ref_Order (A : Option Addr) (l : List Nat) (c : Nat) (B : Option Addr) (k : List Nat) (d : Nat) (w : World) (ha : Ds w A l c) (hb : Ds w B k d) (hl : l.length ≤ 1000000) (hk : k.length ≤ 1000000) :
    Calls Try.prog 79 #[.slice A l.length c, .slice B k.length d] w fun e w' => e = .returned (.int .i64 (order (val l) (val k))) ∧ w = w' := by
  go_enter Try.func79, Try.ntmps79
  go_wp2
  all_goals
    go_loop [5] (fun i => ∃ s : Nat, i = .int .i64 ((s : Int) - 1) ∧ s ≤ 1000000 ∧ Hid (val l / 65536 ^ s = val k / 65536 ^ s)) (fun i => (intOf i + 1).toNat)
    case atStart =>
      have h1 := val_lt ha.sm
      have h2 := val_lt hb.sm
      first
      | exact ⟨k.length, rfl, hk, Lib.hid (by rw [Nat.div_eq_of_lt (Nat.lt_of_lt_of_le h1 (Nat.pow_le_pow_right (by omega) (by omega))), Nat.div_eq_of_lt h2])⟩
      | exact ⟨l.length, rfl, hl, Lib.hid (by rw [Nat.div_eq_of_lt h1, Nat.div_eq_of_lt (Nat.lt_of_lt_of_le h2 (Nat.pow_le_pow_right (by omega) (by omega)))])⟩
    case round =>
      obtain ⟨s, rfl, hs, hH⟩ := hrel
      rcases Nat.eq_zero_or_pos s with rfl | hs0
      · have e : val l = val k := by have := hH.out; simpa using this
        have hq := Lib.hid (show order (val l) (val k) = 0 by rw [e]; unfold order; rw [if_neg (by omega), if_neg (by omega)])
        clear e hH
        go_wp2
        go_ret
        exact ⟨by rw [hq.out]; rfl, rfl⟩
      · obtain ⟨i, rfl⟩ : ∃ i, s = i + 1 := ⟨s - 1, by omega⟩
        rw [show (((i + 1 : Nat) : Int) - 1) = (i : Int) by omega]
        have ho := order_digit hH.out (x := digZ l i) (y := digZ k i) (by rw [digZ_nat, Dv.at_ (Dv.mk' ha.sm)]) (by rw [digZ_nat, Dv.at_ (Dv.mk' hb.sm)])
        have hHo := Lib.hid ho
        have hc1 := Lib.hid (ref_digit A l c (i : Int) w ha)
        have hc2 := Lib.hid (ref_digit B k d (i : Int) w hb)
        clear ho hH
        generalize digZ l i = x at *
        generalize digZ k i = y at *
        rcases Nat.lt_trichotomy x y with h | h | h
        · have hq := Lib.hid (hHo.out.1 h)
          go_wp2_with (go_at_call 145; (first | with_reducible refine hc1.out.mono ?_ | with_reducible refine hc2.out.mono ?_); rintro e w' ⟨rfl, rfl⟩)
          go_ret
          exact ⟨by rw [hq.out]; rfl, rfl⟩
        · subst h
          have hq := Lib.hid (hHo.out.2.2 rfl)
          go_wp2_with (go_at_call 145; (first | with_reducible refine hc1.out.mono ?_ | with_reducible refine hc2.out.mono ?_); rintro e w' ⟨rfl, rfl⟩)
          go_round
          case rel => exact ⟨i, rfl, by omega, hq⟩
          case measure => simp [intOf]
        · have hq := Lib.hid (hHo.out.2.1 h)
          have hn : ¬ x < y := by omega
          go_wp2_with (go_at_call 145; (first | with_reducible refine hc1.out.mono ?_ | with_reducible refine hc2.out.mono ?_); rintro e w' ⟨rfl, rfl⟩)
          go_ret
          exact ⟨by rw [hq.out]; rfl, rfl⟩
/-- In numbers alone. -/
theorem minusN {u v : Value} {m n : Nat} (w : World) (hu : IsV w u m) (hv : IsV w v n) (hle : n ≤ m) : Calls Try.prog 71 #[u, v] w (RetNF (m - n) w) := by
  obtain ⟨A, l, c, rfl, hD, rfl, hl⟩ := hu
  obtain ⟨B, k, d, rfl, hE, rfl, hk⟩ := hv
  exact ref_Minus A l c B k d w hD hE hl hle
theorem orderN {u v : Value} {m n : Nat} (w : World) (hu : IsV w u m) (hv : IsV w v n) : Calls Try.prog 79 #[u, v] w fun e w' => e = .returned (.int .i64 (order m n)) ∧ w = w' := by
  obtain ⟨A, l, c, rfl, hD, rfl, hl⟩ := hu
  obtain ⟨B, k, d, rfl, hE, rfl, hk⟩ := hv
  exact ref_Order A l c B k d w hD hE hl hk
end Go.Proofs.Ytodcjeaannfbnaa
namespace Go.Proofs.Ytodcjeaannfbnaa
open Go.ChangeShapes Go.WideShapes Go.ChangeAt Go.RowKit
set_option maxHeartbeats 1000000
set_option maxRecDepth 100000

/-- A literal of one element is the call's own. -/
theorem Own.lit {w0 W : World} {B : Nat} (e : TypeId) (u : Value) (hb : Below B w0 W) (hB : B ≤ W.heap.size) : Own w0 B e (.slice (some ⟨W.heap.size, 0, none⟩) 1 1) [u] (W.alloc (.cells #[u] e)) :=
  ⟨World.ownsRow_lit W #[u] 1 hB (by unfold maxLen; omega) rfl, hb.alloc hB _, by simp; omega⟩
/-- What Parts has ahead of digit i - 1. -/
def ptQ (a m i : Nat) : Nat := a / 65536 ^ i / m * 65536 ^ i
def ptR (a m i : Nat) : Nat := a / 65536 ^ i % m
theorem pt_up {l : List Nat} (h : Sm l) (i : Nat) : val l / 65536 ^ i = l[i]?.getD 0 + 65536 * (val l / 65536 ^ (i + 1)) := by
  rw [val_at h, Nat.pow_succ, ← Nat.div_div_eq_div_mul, Nat.mod_add_div]
theorem pt_round {a m i d : Nat} (hm : 0 < m) (h : a / 65536 ^ i = d + 65536 * (a / 65536 ^ (i + 1))) :
    ptR a m i = (d + 65536 * ptR a m (i + 1)) % m ∧ ptQ a m i = ptQ a m (i + 1) + 65536 ^ i * ((d + 65536 * ptR a m (i + 1)) / m) := by
  unfold ptR ptQ
  rw [h]
  generalize a / 65536 ^ (i + 1) = A
  have hA := Nat.mod_add_div A m
  have e : d + 65536 * A = (d + 65536 * (A % m)) + m * (65536 * (A / m)) := by
    conv => lhs; rw [← hA]
    rw [Nat.mul_add, Nat.mul_left_comm 65536 m]; omega
  rw [e, Nat.add_mul_mod_self_left, Nat.add_mul_div_left _ _ hm]
  refine ⟨rfl, ?_⟩
  rw [Nat.add_mul, Nat.pow_succ, Nat.add_comm, Nat.mul_comm ((d + 65536 * (A % m)) / m)]
  congr 1
  rw [Nat.mul_comm 65536 (A / m), Nat.mul_assoc, Nat.mul_comm 65536]
theorem pt_start {l : List Nat} (h : Sm l) (m : Nat) : ptR (val l) m l.length = 0 ∧ ptQ (val l) m l.length = 0 := by
  have : val l / 65536 ^ l.length = 0 := Nat.div_eq_of_lt (val_lt h)
  unfold ptR ptQ
  rw [this]; simp
theorem pt_end (a m : Nat) : ptR a m 0 = a % m ∧ ptQ a m 0 = a / m := by simp [ptR, ptQ]
theorem pt_lt {a m i : Nat} (hm : 0 < m) : ptR a m i < m := Nat.mod_lt _ hm

def RetQR (q r : Nat) (w : World) (e : Ending) (w' : World) : Prop := ∃ u v, e = .returned (.tuple #[u, v]) ∧ IsN w' u q ∧ IsN w' v r ∧ Below w.heap.size w w'

theorem own_digs {w0 W : World} {B : Nat} {e : TypeId} {v : Value} {l : List Nat} (h : Own w0 B e v (digV l) W) (hs : Sm l) : ∃ A c, v = .slice A l.length c ∧ Ds W A l c ∧ Own w0 B e (.slice A l.length c) (digV l) W := by
  obtain ⟨A, c, e1, -, -⟩ := h.form
  rw [digV_len] at e1
  subst e1
  exact ⟨A, c, rfl, (ds_own h hs).2, h⟩
theorem lt_len {l : List Nat} {n : Nat} (h : Dg l n) (hn : n < big) : l.length ≤ 10000 := by
  have := h.len hn
  unfold bigK at this
  exact this
theorem order_le {a b : Nat} (h : a ≤ b) : order a b ≤ 0 := by
  by_cases e : a < b
  · rw [show order a b = -1 from if_pos e]; omega
  · unfold order; rw [if_neg e, if_neg (by omega)]; omega
theorem order_nle {a b : Nat} (h : ¬ a ≤ b) : ¬ order a b ≤ 0 := by unfold order; rw [if_neg (by omega), if_pos (by omega)]; omega

theorem ref_Parts (A : Option Addr) (l : List Nat) (c : Nat) {v : Value} {m : Nat} (w : World) (ha : Ds w A l c) (hl : l.length ≤ 500000) (hv : IsV w v m) (hm : 0 < m) (hmb : 65536 * m < big) :
    Calls Try.prog 143 #[.slice A l.length c, v] w (RetQR (val l / m) (val l % m) w) := by
  have hmk := run_make_dig l.length (by omega)
  have hR := DRow.new w (List.replicate l.length 0) 3
  have hL : Below w.heap.size w (w.alloc (.cells (digA (List.replicate l.length 0)) 3)) := by go_grown
  obtain ⟨n, hn⟩ : ∃ n, n = l.length := ⟨_, rfl⟩
  go_enter Try.func143, Try.ntmps143
  go_wp2
  generalize w.alloc (.cells (digA (List.replicate l.length 0)) 3) = W0 at *
  go_loopw [7, 8] (fun r i wr => ∃ (s : Nat) (L : List Nat), i = .int .i64 ((s : Int) - 1) ∧ s ≤ l.length ∧ L.length ≤ l.length ∧ l.length ≤ L.length ∧ DRow wr w.heap.size L ∧ IsNF wr (w.heap.size + 1) r (ptR (val l) m s) ∧ Below w.heap.size w wr ∧
    Hid (Sm L ∧ val L = ptQ (val l) m s ∧ ∀ j, j < s → L[j]?.getD 0 = 0)) (fun _ i _ => (intOf i + 1).toNat)
  case atStart =>
    refine ⟨l.length, _, rfl, Nat.le_refl _, by simp, by simp, hR, ?_, hL, sm_zeros _, by rw [val_zeros, (pt_start ha.sm m).2], fun j _ => by simp [List.getElem?_replicate]; split <;> rfl⟩
    rw [(pt_start ha.sm m).1]
    exact ⟨none, [], 0, rfl, ⟨Rd.nil, Sm.nil, by simp, by omega⟩, Dg.nil, fun ad h => by cases h⟩
  case round =>
    clear hR hL hmk
    obtain ⟨s, L, rfl, hs, hL1, hL2, hR, hN, hL, hH⟩ := hrel
    rcases Nat.eq_zero_or_pos s with rfl | hs0
    · rw [(pt_end (val l) m).1] at hN
      have hvL := hH.out.2.1
      rw [(pt_end (val l) m).2] at hvL
      have hHvL := Lib.hid hvL
      have hDs := hR.ds hH.out.1 (by omega)
      have hlen := Lib.hid (show L.length = l.length by omega)
      have hcon := Lib.hid (ref_trim _ L _ wr hDs)
      rw [hlen.out] at hcon
      rw [hlen.out] at hDs
      have hHDs := Lib.hid hDs
      clear hvL hDs
      go_wp2_with (go_at_call 146; refine hcon.out.mono ?_; rintro e w' ⟨q, hq, rfl, hg, rfl⟩)
      go_ret2
      exact ⟨_, _, rfl, hHvL.out ▸ isN_trim hHDs.out hq hg, hN.toN, hL⟩
    · obtain ⟨i, rfl⟩ : ∃ i, s = i + 1 := ⟨s - 1, by omega⟩
      rw [show (((i + 1 : Nat) : Int) - 1) = (i : Int) by omega]
      have hlt : i < l.length := by omega
      obtain ⟨ad, rfl, hbl, hc⟩ := digV_at (ha.below hL (Nat.le_refl _)).rd hlt
      have hpr := Lib.hid (pt_round (m := m) hm (pt_up ha.sm i))
      rw [List.getElem?_eq_getElem hlt, Option.getD_some] at hpr
      have hrm := pt_lt (a := val l) (i := i + 1) hm
      have hd := ha.sm l[i] (List.getElem_mem _)
      generalize l[i] = d at *
      generalize hr : ptR (val l) m (i + 1) = r at *
      have hHr := Lib.hid hr
      clear hr
      obtain ⟨A2, k, c2, rfl, hD, hG, hB⟩ := hN
      have hkb : k.length ≤ 10000 := lt_len hG (by omega)
      have hO := Own.lit (w0 := wr) (W := wr) (e := 3) (u := .int .i64 (d : Int)) (Below.refl _ _) (Nat.le_refl _)
      obtain ⟨L1, hL1e⟩ : ∃ L1, L1 = d :: k := ⟨_, rfl⟩
      have hs1 : Sm L1 := by rw [hL1e]; exact fun x hx => by rcases List.mem_cons.1 hx with h | h; exact h ▸ hd; exact hD.sm x h
      have hv1 : val L1 = d + 65536 * r := by rw [hL1e, ← hG.val]; rfl
      have hdg : [Value.int IntKind.i64 (d : Int)] ++ digV k = digV L1 := by rw [hL1e]; rfl
      have hrd := (hD.below (below_alloc wr (Obj.cells #[Value.int IntKind.i64 (d : Int)] 3)) (Nat.le_refl _)).rd
      have hHdg := Lib.hid hdg
      have hHv1 := Lib.hid hv1
      clear hL1e hv1 hdg hG hD
      go_wp2_with (first
        | (at_builtin; refine wpList_own (o := ⟨some 28, _, _, _, _, _⟩) rfl (.tmp 26) (.tmp 27) 34 rfl SI rfl hO (news := digV k) (c := c2) (by rw [digV_len]; rfl) hrd (digV_one k) (by rw [digV_len]; unfold maxLen; simp; omega) (by rw [digV_len]; simp; omega) ?_; intro v1 w1 hO1 hg1 hat1; clear hg1 hat1; rw [hHdg.out] at hO1; obtain ⟨A1, c1, rfl, hD1, hO2⟩ := own_digs hO1 hs1; clear hO1)
        | (go_at_call 146; refine (ref_trim A1 L1 c1 _ hD1).mono ?_; rintro e w' ⟨q, hq, rfl, hg, rfl⟩; have hN1 := isNF_trim hO2 hs1 hq hg))
      have hgl := hR.row.lt
      have hbw := hO2.bel
      rw [hHv1.out] at hN1
      have hN1 := hN1.mono (show w.heap.size + 1 ≤ wr.heap.size by omega)
      generalize Value.slice A1 q c1 = r1 at *
      have hR1 := hR.below hbw hgl
      have hL1' := below_step hbw hL (Nat.le_refl _)
      obtain ⟨R1, hR1e⟩ : ∃ R1, R1 = d + 65536 * r := ⟨_, rfl⟩
      rw [← hR1e] at hN1 hpr
      have hR1m : R1 < 65536 * m := by rw [hR1e]; have : 65536 * r + 65536 ≤ 65536 * m := by omega
                                       omega
      clear hR1e hO hO2 hD1 hg hq hrd hHdg hHv1 hR hL hbw hc hs1
      go_loopw [9, 10] (fun a b wr => ∃ lo hi : Nat, a = .int .i64 lo ∧ b = .int .i64 hi ∧ lo < hi ∧ hi ≤ 65536 ∧ DRow wr w.heap.size L ∧ IsNF wr (w.heap.size + 1) r1 R1 ∧ Below w.heap.size w wr ∧ Hid (m * lo ≤ R1 ∧ R1 < m * hi)) (fun a b _ => (intOf b).toNat - (intOf a).toNat)
      case atStart => exact ⟨0, 65536, rfl, rfl, by omega, by omega, hR1, hN1, hL1', Lib.hid ⟨by omega, by omega⟩⟩
      case round =>
        clear hR1 hN1 hL1'
        obtain ⟨lo, hi, rfl, rfl, hlh, hh, hR, hN, hL, hI⟩ := hrel
        have hRb : R1 < big := by omega
        by_cases hgo : lo + 1 < hi
        · obtain ⟨mid, hmid⟩ : ∃ mid, mid = (lo + hi) / 2 := ⟨_, rfl⟩
          have hmi : ((lo : Int) + hi) / 2 = mid := by omega
          have hm1 : lo < mid := by omega
          have hm2 : mid < hi := by omega
          have hgi : (1 : Int) < (hi : Int) - lo := by omega
          have hmb2 : m * mid < big := Nat.lt_of_le_of_lt (Nat.mul_le_mul_left m (show mid ≤ 65536 by omega)) (by rw [Nat.mul_comm]; exact hmb)
          have hnf := Lib.hid hN
          have hvw := Lib.hid (hv.step hL)
          clear hmid hgo
          by_cases hle : m * mid ≤ R1
          · obtain ⟨o, ho, ho2⟩ : ∃ o : Int, order (m * mid) R1 = o ∧ o ≤ 0 := ⟨_, rfl, order_le hle⟩
            have hHo := Lib.hid ho
            clear ho
            go_wp2_with (first
              | (go_at_call 73; refine (timesN (m := m) (n := mid) _ (hvw.out.step (below_alloc _ _)) (IsV.lit _ _ (by omega))).mono ?_; rintro e w' ⟨t, rfl, ht, hbt⟩; have hbt := (below_alloc _ _).trans (hbt.mono (by simp)))
              | (go_at_call 79; refine (orderN (m := m * mid) (n := R1) _ (ht.toV hmb2) ((hnf.out.step hbt).toN.toV hRb)).mono ?_; rintro e w' ⟨rfl, rfl⟩; rw [hHo.out]))
            go_roundw
            case rel => exact ⟨mid, hi, rfl, rfl, hm2, hh, hR.below hbt hR.row.lt, hN.step hbt, below_step hbt hL (Nat.le_refl _), Lib.hid ⟨hle, hI.out.2⟩⟩
            case measure => simp [intOf]; omega
          · obtain ⟨o, ho, ho2⟩ : ∃ o : Int, order (m * mid) R1 = o ∧ ¬ o ≤ 0 := ⟨_, rfl, order_nle hle⟩
            have hHo := Lib.hid ho
            clear ho
            go_wp2_with (first
              | (go_at_call 73; refine (timesN (m := m) (n := mid) _ (hvw.out.step (below_alloc _ _)) (IsV.lit _ _ (by omega))).mono ?_; rintro e w' ⟨t, rfl, ht, hbt⟩; have hbt := (below_alloc _ _).trans (hbt.mono (by simp)))
              | (go_at_call 79; refine (orderN (m := m * mid) (n := R1) _ (ht.toV hmb2) ((hnf.out.step hbt).toN.toV hRb)).mono ?_; rintro e w' ⟨rfl, rfl⟩; rw [hHo.out]))
            go_roundw
            case rel => exact ⟨lo, mid, rfl, rfl, hm1, by omega, hR.below hbt hR.row.lt, hN.step hbt, below_step hbt hL (Nat.le_refl _), Lib.hid ⟨hI.out.1, by omega⟩⟩
            case measure => simp [intOf]; omega
        · have hgi : ¬ (1 : Int) < (hi : Int) - lo := by omega
          have hq : R1 / m = lo := by
            have h1 := hI.out.1
            have h2 := hI.out.2
            rw [show hi = lo + 1 by omega] at h2
            exact Nat.div_eq_of_lt_le (by rw [Nat.mul_comm]; exact h1) (by rw [Nat.mul_comm]; exact h2)
          rw [hq] at hpr
          have hRm : R1 % m = R1 - m * lo := by
            have := Nat.mod_add_div R1 m
            rw [hq] at this; omega
          rw [hRm] at hpr
          have hlo : lo < 65536 := by omega
          have hle := hI.out.1
          have hmb2 : m * lo < big := by omega
          have hnf := Lib.hid hN
          have hvw := Lib.hid (hv.step hL)
          have hQ0 := hH.out.2.2 i (by omega)
          have hvs := val_set L i lo (by omega)
          rw [hQ0, Nat.mul_zero, Nat.add_zero, hH.out.2.1, ← hpr.out.2] at hvs
          have hfin : Hid (Sm (L.set i lo) ∧ val (L.set i lo) = ptQ (val l) m i ∧ ∀ j, j < i → (L.set i lo)[j]?.getD 0 = 0) :=
            Lib.hid ⟨hH.out.1.set _ hlo, hvs, fun j hj => by rw [List.getElem?_set_ne (by omega)]; exact hH.out.2.2 j (by omega)⟩
          have hsl1 : (L.set i lo).length ≤ l.length := by simp; omega
          have hsl2 : l.length ≤ (L.set i lo).length := by simp; omega
          have hpr1 := Lib.hid hpr.out.1
          clear hq hRm hQ0 hvs hpr hI
          have hget : DRow (wr.setCell ⟨w.heap.size, i, none⟩ (.int .i64 (lo : Int))) w.heap.size (L.set i lo) := hR.set i lo
          by_cases h0 : lo = 0
          · have h0' : ¬ (0 : Int) < lo := by omega
            have hRr : ptR (val l) m i = R1 := by rw [hpr1.out, h0]; simp
            have hHRr := Lib.hid hRr
            have c1 := hR.cell (i := i) (by omega)
            have f1 := hR.row.frozen i
            have hHg := Lib.hid hget
            clear h0 hRr hpr1 hget
            go_wp2
            go_roundw
            case rel => exact ⟨i, L.set i lo, rfl, by omega, hsl1, hsl2, hHg.out, hHRr.out ▸ hN.setCell (by simp) _, hL.setCell (Nat.le_refl _) _, hfin⟩
            case measure => simp [intOf]
          · have h0' : (0 : Int) < lo := by omega
            clear h0 hget
            go_wp2_with (first
              | (go_at_call 73; refine (timesN (m := m) (n := lo) _ (hvw.out.step (below_alloc _ _)) (IsV.lit _ _ hlo)).mono ?_; rintro e w' ⟨t, rfl, ht, hbt⟩; have hbt := (below_alloc _ _).trans (hbt.mono (by simp)))
              | (go_at_call 71; refine (minusN (m := R1) (n := m * lo) _ ((hnf.out.step hbt).toN.toV hRb) (ht.toV hmb2) hle).mono ?_; rintro e w2 ⟨r2, rfl, hN2, hb2⟩; have hb3 := below_step hb2 hbt (Nat.le_refl _); have hR3 := hR.below hb3 hR.row.lt; have c1 := hR3.cell (i := i) (by omega); have f1 := hR3.row.frozen i; have hL3 := below_step hb3 hL (Nat.le_refl _); have hN3 := hN2.mono (show w.heap.size + 1 ≤ w'.heap.size from Nat.le_trans hR.row.lt hbt.size)))
            go_roundw
            case rel => exact ⟨i, L.set i lo, rfl, by omega, hsl1, hsl2, hR3.set i lo, hpr1.out ▸ hN3.setCell (by simp) _, hL3.setCell (Nat.le_refl _) _, hfin⟩
            case measure => simp [intOf]
/-- In numbers alone. -/
theorem partsN {u v : Value} {a m k : Nat} (w : World) (hu : IsN w u a) (ha : a < 2 ^ k) (hk : k ≤ 160000) (hv : IsV w v m) (hm : 0 < m) (hmb : 65536 * m < big) :
    Calls Try.prog 143 #[u, v] w (RetQR (a / m) (a % m) w) := by
  obtain ⟨A, l, c, rfl, hD, hG⟩ := hu
  have hl := lt_len hG (lt_big ha hk)
  have h := ref_Parts A l c w hD (by omega) hv hm hmb
  rw [hG.val] at h
  exact h
theorem restN {u v : Value} {a m k : Nat} (w : World) (hu : IsN w u a) (ha : a < 2 ^ k) (hk : k ≤ 160000) (hv : IsV w v m) (hm : 0 < m) (hmb : 65536 * m < big) :
    Calls Try.prog 66 #[u, v] w (RetN (a % m) w) := by
  have hc := Lib.hid (partsN w hu ha hk hv hm hmb)
  obtain ⟨A, l, c, rfl, -⟩ := hu
  obtain ⟨B, l2, c2, rfl, -⟩ := hv
  go_enter Try.func66, Try.ntmps66
  go_wp2_with fail
  refine hc.out.mono ?_
  rintro e w' ⟨u, v, rfl, -, hN, hb⟩
  go_wp2
  go_ret
  exact ⟨v, rfl, hN, hb⟩
/-- The number that a slice's digits are. -/
def digOf (w : World) : Value → Nat
  | .slice (some ad) n _ => val ((List.range n).map fun j => (intOf ((w.cell? (ad.add j)).getD undef)).toNat)
  | _ => 0
theorem digOf_is {w : World} {v : Value} {n : Nat} (h : IsN w v n) : digOf w v = n := by
  obtain ⟨A, l, c, rfl, hD, hG⟩ := h
  cases A with
  | none =>
    have : l = [] := by
      cases l with
      | nil => rfl
      | cons d r => obtain ⟨ad, e, -⟩ := hD.rd 0 _ rfl; cases e
    subst this
    exact hG.val
  | some ad =>
    show val _ = n
    rw [← hG.val]
    congr 1
    apply List.ext_getElem (by simp)
    intro j h1 h2
    have := hD.rd.all (j := j) (u := .int .i64 (l[j] : Nat)) (by simp [digV, h2])
    simp [this, intOf]
end Go.Proofs.Ytodcjeaannfbnaa
namespace Go.Proofs.Ytodcjeaannfbnaa
open Go.ChangeShapes Go.WideShapes Go.ChangeAt Go.RowKit
set_option maxHeartbeats 2000000
set_option maxRecDepth 100000
attribute [local go_sem ↓] load_fe store_fe execl_fe execs_fe load_num store_num execl_num execs_num
attribute [local go_sem] isHead_mk blkOf_mk isAgg_mk cellsV_mk row_drew rowAt_drew row_new_cells row_old rowAt_new rowAt_old setRow_new zeroFe zeroNum
theorem dgt_zero (i : Nat) : dgt 0 i = 0 := by unfold dgt; rw [Nat.zero_div]
theorem fe1 {n : Nat} (hn : n < 65536) : #[Value.int IntKind.i64 (n : Int), Value.int IntKind.i64 0, Value.int IntKind.i64 0, Value.int IntKind.i64 0, Value.int IntKind.i64 0, Value.int IntKind.i64 0, Value.int IntKind.i64 0, Value.int IntKind.i64 0, Value.int IntKind.i64 0, Value.int IntKind.i64 0, Value.int IntKind.i64 0, Value.int IntKind.i64 0, Value.int IntKind.i64 0, Value.int IntKind.i64 0, Value.int IntKind.i64 0, Value.int IntKind.i64 0] = arrK .i64 16 (dgt n) := by
  have h : #[Value.int IntKind.i64 (n : Int), Value.int IntKind.i64 0, Value.int IntKind.i64 0, Value.int IntKind.i64 0, Value.int IntKind.i64 0, Value.int IntKind.i64 0, Value.int IntKind.i64 0, Value.int IntKind.i64 0, Value.int IntKind.i64 0, Value.int IntKind.i64 0, Value.int IntKind.i64 0, Value.int IntKind.i64 0, Value.int IntKind.i64 0, Value.int IntKind.i64 0, Value.int IntKind.i64 0, Value.int IntKind.i64 0] = arrK .i64 16 fun i => if i = 0 then n else 0 := by kernel_rfl
  rw [h]
  refine arrK_congr fun i hi => ?_
  unfold dgt
  by_cases e : i = 0
  · subst e; rw [if_pos rfl]; omega
  · rw [if_neg e, Nat.div_eq_of_lt]
    obtain ⟨j, rfl⟩ : ∃ j, i = j + 1 := ⟨i - 1, by omega⟩
    rw [Nat.pow_succ]
    have : 0 < 65536 ^ j := Nat.pow_pos (by omega)
    exact Nat.lt_of_lt_of_le hn (Nat.le_mul_of_pos_left _ this)
theorem build_fe {n : Nat} (hn : n < 65536) (w : World) : (Instr.build 26 #[(0, Value.int IntKind.i64 (n : Int))]).run Try.prog w = .ok (.agg (arrK .i64 16 (dgt n))) w := (run_build w _ _ _ (by kernel_rfl)).trans (by rw [← fe1 hn])
theorem ref_small (n : Nat) (w : World) (hn : n < 65536) : Calls Try.prog 89 #[.int .i64 n] w fun e w' => e = .returned (feV n) ∧ Below w.heap.size w w' := by
  unfold feV
  have hb := Lib.hid (fun V => build_fe hn V)
  clear hn
  have hcz := arrK_cells .i64 16 fun _ => 0
  have hcp := arrK_cells .i64 16 (dgt n)
  have hL0 := below_alloc w (Obj.cells (arrK .i64 16 fun _ => 0) 26)
  have hR0 : Row (w.alloc (Obj.cells (arrK .i64 16 fun _ => 0) 26)) w.heap.size 16 := (row_new rfl).2 hcz.1
  go_enter Try.func89, Try.ntmps89
  go_upto_region 1 with (fail)
  generalize w.alloc _ = W0 at *
  go_wp2_with (refine wpList_bldA (vx := Value.int IntKind.i64 (n : Int)) rfl rfl (by go_simp) (hb.out _) ?_)
  exact ret_stored (p := 2) (ty := 26) (g := w.heap.size) (n := 16) (c := arrK .i64 16 (dgt n)) rfl Try.underlying26 rfl (by kernel_rfl) rfl hR0 hcp.1 rfl ⟨rfl, below_setRow hL0 (Nat.le_refl _)⟩
theorem digN {u : Value} {m : Nat} (i : Nat) (w : World) (hu : IsV w u m) : Calls Try.prog 145 #[u, .int .i64 (i : Int)] w fun e w' => e = .returned (.int .i64 (dgt m i : Nat)) ∧ w = w' := by
  obtain ⟨A, l, c, rfl, hD, rfl, hl⟩ := hu
  refine (ref_digit A l c i w hD).mono ?_
  rintro e w' ⟨rfl, rfl⟩
  rw [digZ_nat, Dv.at_ (Dv.mk' hD.sm)]
  exact ⟨rfl, rfl⟩
theorem ref_feOf {u : Value} {n : Nat} (w : World) (hu : IsV w u n) : Calls Try.prog 85 #[u] w fun e w' => e = .returned (feV n) ∧ Below w.heap.size w w' := by
  unfold feV
  have hcz := arrK_cells .i64 16 fun _ => 0
  have hL0 : Below w.heap.size w ((w.alloc (Obj.cells (arrK .i64 16 fun _ => 0) 26)).alloc (Obj.cells (arrK .i64 16 fun _ => 0) 26)) := by go_grown
  have hR0 : Row ((w.alloc (Obj.cells (arrK .i64 16 fun _ => 0) 26)).alloc (Obj.cells (arrK .i64 16 fun _ => 0) 26)) w.heap.size 16 := ((At.new (k := .i64) (f := fun _ => 0) _ rfl).old _).row
  have hX0 : At ((w.alloc (Obj.cells (arrK .i64 16 fun _ => 0) 26)).alloc (Obj.cells (arrK .i64 16 fun _ => 0) 26)) (w.heap.size + 1) .i64 16 (mixD (dgt n) 0) := (At.new _ (by simp)).congr fun i _ => by simp [mixD]
  have hU0 : IsV ((w.alloc (Obj.cells (arrK .i64 16 fun _ => 0) 26)).alloc (Obj.cells (arrK .i64 16 fun _ => 0) 26)) u n := (hu.alloc _).alloc _
  have hL := Lib.hid hL0
  have hR := Lib.hid hR0
  have hX := Lib.hid hX0
  have hU := Lib.hid hu
  clear hL0 hR0 hX0 hU0 hu
  go_enter Try.func85, Try.ntmps85
  go_wp2_with fail
  generalize (w.alloc _).alloc _ = W0 at *
  go_loopw [5] (fun i wr => ∃ s : Nat, i = .int .i64 s ∧ s ≤ 16 ∧ Hid (Row wr w.heap.size 16) ∧ Hid (At wr (w.heap.size + 1) .i64 16 (mixD (dgt n) s)) ∧ Hid (Below w.heap.size w wr)) (fun i _ => 16 - (intOf i).toNat)
  case atStart => exact ⟨0, rfl, by omega, hR, hX, hL⟩
  case round =>
    clear hR hX hL
    obtain ⟨s, rfl, hs, hR, hX, hL⟩ := hrel
    by_cases h16 : s = 16
    · subst h16
      rw [show ((16 : Nat) : Int) = 16 from rfl]
      have hX2 := hX.out.congr (f' := dgt n) fun i hi => by unfold mixD; rw [if_pos hi]
      have hr1 := hX2.row
      have hr2 := hX2.eq
      have hr3 := hR.out
      have hcv := arrK_cells .i64 16 (dgt n)
      clear hX hU hX2
      go_wp2_with fail
      exact ret_stored (p := 2) (ty := 26) (g := w.heap.size) (n := 16) (c := arrK .i64 16 (dgt n)) rfl Try.underlying26 rfl (by kernel_rfl) rfl hr3 hcv.1 rfl ⟨rfl, below_setRow hL.out (by omega)⟩
    · have hs16 : (s : Int) < 16 := by omega
      have hc := Lib.hid (digN s wr (hU.out.step hL.out))
      have cx := hX.out.cell (i := s) (by omega)
      have fx := hX.out.row.frozen s
      have hX2 := Lib.hid ((hX.out.set s (dgt n s)).congr fun p _ => mixD_step (dgt n) s p)
      have hR2 : Hid (Row (wr.setCell ⟨w.heap.size + 1, s, none⟩ (.int .i64 (dgt n s : Nat))) w.heap.size 16) := Lib.hid (row_setCell.2 hR.out)
      have hL2 := Lib.hid (show Below w.heap.size w (wr.setCell ⟨w.heap.size + 1, s, none⟩ (.int .i64 (dgt n s : Nat))) from hL.out.setCell (by simp <;> omega) _)
      clear hX hR hL
      generalize mixD (dgt n) s s = yy at *
      generalize dgt n s = d at *
      go_wp2_with fail
      refine hc.out.mono ?_
      rintro e w' ⟨rfl, rfl⟩
      dsimp only
      go_wp2_with fail
      go_roundw
      case rel => exact ⟨s + 1, by go_num, by omega, hR2, hX2, hL2⟩
      case measure => simp [intOf]; omega
theorem ref_Modulus (w : World) : Calls Try.prog 17 #[] w (RetN fP w) := by
  have h0 := Lib.hid (fun V => ref_TwoTo 255 V (by omega))
  have hbg := Lib.hid (show 2 ^ 255 < big from lt_big (k := 256) (Nat.pow_lt_pow_right (by omega) (by omega)) (by omega))
  have hle := Lib.hid (show 19 ≤ 2 ^ 255 by decide +kernel)
  rw [show fP = 2 ^ 255 - 19 from rfl]
  obtain ⟨Q, hQ⟩ : ∃ Q, 2 ^ 255 = Q := ⟨_, rfl⟩
  rw [hQ] at h0 hbg hle ⊢
  clear hQ
  go_enter Try.func17, Try.ntmps17
  go_wp2_with fail
  refine (h0.out _).mono ?_
  rintro e w2 ⟨v, rfl, hv, hb2⟩
  have hV := Lib.hid ((hv.toV hbg.out).alloc (.cells #[.int .i64 19] 3))
  have hN := Lib.hid (IsV.lit w2 3 (d := 19) (by omega))
  have hL := Lib.hid (Below.trans hb2 ((below_alloc w2 (.cells #[.int .i64 19] 3)).mono hb2.size))
  clear hv hb2
  dsimp only
  go_wp2_with fail
  refine (minusN _ hV.out hN.out hle.out).mono ?_
  rintro e w3 ⟨v3, rfl, hv3, hb3⟩
  have hv4 := Lib.hid hv3
  have hL3 := Lib.hid (below_step hb3 hL.out (Nat.le_refl _))
  clear hv3 hb3
  dsimp only
  go_wp2_with fail
  go_ret
  exact ⟨v3, rfl, hv4.out.toN, hL3.out⟩
end Go.Proofs.Ytodcjeaannfbnaa
namespace Go.Proofs.Ytodcjeaannfbnaa
open Go.ChangeShapes Go.WideShapes Go.ChangeAt Go.RowKit
set_option maxHeartbeats 2000000
set_option maxRecDepth 100000
attribute [local go_sem ↓] load_fe store_fe execl_fe execs_fe load_num store_num execl_num execs_num
attribute [local go_sem] isHead_mk blkOf_mk isAgg_mk cellsV_mk row_drew rowAt_drew row_new_cells row_old rowAt_new rowAt_old setRow_new zeroFe zeroNum
theorem val_range (f : Nat → Nat) (k : Nat) : val ((List.range k).map f) = dval f k := by
  induction k with
  | zero => rfl
  | succ k ih => rw [List.range_succ, List.map_append, List.map_cons, List.map_nil, val_snoc, ih, List.length_map, List.length_range]; rfl
theorem IsV.fe {W : World} {g n : Nat} (h : At W g .i64 16 (dgt n)) (hn : n < 2 ^ 256) : IsV W (.slice (some ⟨g, 0, none⟩) 16 16) n := by
  have hl : ((List.range 16).map (dgt n)).length = 16 := by simp
  refine ⟨some ⟨g, 0, none⟩, (List.range 16).map (dgt n), 16, by rw [hl], ⟨fun j u hu => ?_, fun d hd => ?_, by omega, by omega⟩, ?_, by omega⟩
  · refine ⟨⟨g, 0, none⟩, rfl, h.lt, ?_⟩
    have hj : j < 16 := by
      rcases Nat.lt_or_ge j 16 with h1 | h1
      · exact h1
      · rw [List.getElem?_eq_none (by simp [digV]; omega)] at hu; cases hu
    have h1 := h.cell hj
    have h2 : (⟨g, 0, none⟩ : Addr).add j = ⟨g, j, none⟩ := by
      by_cases e : j = 0
      · subst e; simp [Addr.add]
      · simp [Addr.add, e]
    rw [h2, h1, ← hu]
    simp [digV, List.getElem?_range hj]
  · obtain ⟨i, -, rfl⟩ := List.mem_map.1 hd
    exact dgt_lt _ _
  · rw [val_range, dval_dgt, p16, Nat.mod_eq_of_lt hn]
theorem fe_Num (n : Nat) (w : World) (hn : n < 2 ^ 256) : Calls Try.prog 19 #[feV n] w fun e w' => e = .returned (numV n) ∧ Below w.heap.size w w' := by
  have hl := Lib.hid hn
  clear hn
  have hcn := arrK_cells .u64 4 (wd n)
  have hcz := arrK_cells .u64 4 (wd 0)
  unfold feV
  have hL0 : Below w.heap.size w ((w.alloc (Obj.cells (arrK .i64 16 (dgt n)) 26)).alloc (Obj.cells (arrK .u64 4 (wd 0)) 24)) := by go_grown
  have hA0 : At ((w.alloc (Obj.cells (arrK .i64 16 (dgt n)) 26)).alloc (Obj.cells (arrK .u64 4 (wd 0)) 24)) w.heap.size .i64 16 (dgt n) := (At.new _ rfl).old _
  have hR0 : Row ((w.alloc (Obj.cells (arrK .i64 16 (dgt n)) 26)).alloc (Obj.cells (arrK .u64 4 (wd 0)) 24)) (w.heap.size + 1) 4 := (At.new (k := .u64) (f := wd 0) _ (by simp)).row
  have hL := Lib.hid hL0
  have hR := Lib.hid hR0
  have hA := Lib.hid hA0
  clear hL0 hR0 hA0
  go_enter Try.func19, Try.ntmps19
  go_upto_region 1 with (fail)
  generalize (w.alloc _).alloc _ = W0 at *
  have hc := Lib.hid (toNumN W0 (IsV.fe hA.out hl.out))
  unfold numV at hc
  go_wp2_with fail
  refine hc.out.mono ?_
  rintro e w2 ⟨rfl, hb⟩
  have hR2 := row_below hR.out hb hR.out.lt
  have hL2 := Lib.hid (below_step hb hL.out (Nat.le_refl _))
  clear hA hR hL hb
  dsimp only
  go_wp2_with fail
  exact ret_stored (p := 2) (ty := 24) (g := w.heap.size + 1) (n := 4) (c := arrK .u64 4 (wd n)) rfl Try.underlying24 rfl (by kernel_rfl) rfl hR2 hcn.1 rfl ⟨rfl, below_setRow hL2.out (by omega)⟩
theorem P_mul_big : 65536 * fP < big := mul_big (m := 17) (n := 256) (by omega) P_lt (by omega)
theorem P_big : fP < big := lt_big P_lt (by omega)
theorem ref_Field (a : Nat) (w : World) (ha : a < 2 ^ 256) : Calls Try.prog 12 #[numV a] w fun e w' => e = .returned (feV (a % fP)) ∧ Below w.heap.size w w' := by
  have hl := Lib.hid ha
  have h1 := Lib.hid (fun V => ref_OfNum a V ha)
  have h2 := Lib.hid (fun V => ref_Modulus V)
  have h3 := Lib.hid (fun u v V (hu : IsN V u a) (hv : IsN V v fP) => restN (k := 256) V hu ha (by omega) (hv.toV P_big) (Nat.lt_trans (by omega) fP_pos) P_mul_big)
  have h4 := Lib.hid (fun u V (hu : IsN V u (a % fP)) => ref_feOf V (hu.toV (lt_big (Nat.lt_trans lt_P P_lt) (by omega))))
  obtain ⟨r, hr⟩ : ∃ r, a % fP = r := ⟨_, rfl⟩
  rw [hr] at h3 h4 ⊢
  obtain ⟨p, hp⟩ : ∃ r, fP = r := ⟨_, rfl⟩
  rw [hp] at h2 h3
  clear hr hp ha
  have hcr := arrK_cells .i64 16 (dgt r)
  have hcz := arrK_cells .i64 16 fun _ => 0
  unfold numV at h1 ⊢
  unfold feV at h4 ⊢
  have hL0 : Below w.heap.size w ((w.alloc (Obj.cells (arrK .u64 4 (wd a)) 24)).alloc (Obj.cells (arrK .i64 16 fun _ => 0) 26)) := by go_grown
  have hA0 : At ((w.alloc (Obj.cells (arrK .u64 4 (wd a)) 24)).alloc (Obj.cells (arrK .i64 16 fun _ => 0) 26)) w.heap.size .u64 4 (wd a) := (At.new _ rfl).old _
  have hR0 : Row ((w.alloc (Obj.cells (arrK .u64 4 (wd a)) 24)).alloc (Obj.cells (arrK .i64 16 fun _ => 0) 26)) (w.heap.size + 1) 16 := (At.new (k := .i64) (f := fun _ => 0) _ (by simp)).row
  have hL := Lib.hid hL0
  have hR := Lib.hid hR0
  have hA := Lib.hid hA0
  clear hL0 hR0 hA0
  go_enter Try.func12, Try.ntmps12
  go_upto_region 1 with (fail)
  generalize (w.alloc _).alloc _ = W0 at *
  have hr1 := hA.out.row
  have hr2 := hA.out.eq
  go_wp2_with fail
  refine (h1.out _).mono ?_
  rintro e w2 ⟨u, rfl, hu, hb⟩
  have hU := Lib.hid hu
  replace hR := Lib.hid (row_below hR.out hb hR.out.lt)
  replace hL := Lib.hid (below_step hb hL.out (Nat.le_refl _))
  clear hr1 hr2 hA hb hu h1
  dsimp only
  go_wp2_with fail
  refine (h2.out _).mono ?_
  rintro e w3 ⟨v, rfl, hv, hb⟩
  have hV := Lib.hid hv
  replace hU := Lib.hid (hU.out.step hb)
  replace hR := Lib.hid (row_below hR.out hb hR.out.lt)
  replace hL := Lib.hid (below_step hb hL.out (Nat.le_refl _))
  clear hb hv h2
  dsimp only
  go_wp2_with fail
  refine (h3.out _ _ _ hU.out hV.out).mono ?_
  rintro e w4 ⟨x, rfl, hx, hb⟩
  have hX := Lib.hid hx
  replace hR := Lib.hid (row_below hR.out hb hR.out.lt)
  replace hL := Lib.hid (below_step hb hL.out (Nat.le_refl _))
  clear hb hx h3 hU hV
  dsimp only
  go_wp2_with fail
  refine (h4.out _ _ hX.out).mono ?_
  rintro e w5 ⟨rfl, hb⟩
  have hR2 := row_below hR.out hb hR.out.lt
  have hL2 := Lib.hid (below_step hb hL.out (Nat.le_refl _))
  clear hb hX h4 hR hL
  dsimp only
  go_wp2_with fail
  exact ret_stored (p := 2) (ty := 26) (g := w.heap.size + 1) (n := 16) (c := arrK .i64 16 (dgt r)) rfl Try.underlying26 rfl (by kernel_rfl) rfl hR2 hcr.1 rfl ⟨rfl, below_setRow hL2.out (by omega)⟩
/-- What To holds behind s bits. -/
def toS (a n s : Nat) : Nat := a ^ (n % 2 ^ s) % fP
theorem toS_start (a n : Nat) : toS a n 0 = 1 := by
  unfold toS
  rw [Nat.pow_zero, Nat.mod_one, Nat.pow_zero]
  decide +kernel
theorem toS_end {a n : Nat} (hn : n < 2 ^ 256) : toS a n 256 = a ^ n % fP := by unfold toS; rw [Nat.mod_eq_of_lt hn]
theorem toS_lt (a n s : Nat) : toS a n s < 2 ^ 256 := Nat.lt_trans lt_P P_lt
theorem toS_zero {a n s : Nat} (h : n / 2 ^ s % 2 = 0) : toS a n (s + 1) = toS a n s := by
  unfold toS
  rw [Nat.pow_succ, Nat.mod_mul, h, Nat.mul_zero, Nat.add_zero]
theorem toS_one {a n s v : Nat} (h : n / 2 ^ s % 2 = 1) (hv : v % fP = a ^ 2 ^ s % fP) : toS a n s * v % fP = toS a n (s + 1) := by
  unfold toS
  rw [Nat.pow_succ, Nat.mod_mul, h, Nat.mul_one, Nat.mul_mod, hv, ← Nat.mul_mod, Nat.mod_mul_mod, ← Nat.pow_add]
theorem sq_step {a s v : Nat} (hv : v % fP = a ^ 2 ^ s % fP) : v * v % fP % fP = a ^ 2 ^ (s + 1) % fP := by
  rw [Nat.mod_mod, Nat.mul_mod, hv, ← Nat.mul_mod, ← Nat.pow_add, Nat.pow_succ, Nat.mul_two]
theorem fe_To (a n : Nat) (u : Value) (w : World) (ha : a < 2 ^ 256) (hn : n < 2 ^ 256) (hu : IsV w u n) : Calls Try.prog 99 #[feV a, u] w fun e w' => e = .returned (feV (a ^ n % fP)) ∧ Below w.heap.size w w' := by
  have hal := Lib.hid ha
  have h1 := Lib.hid (fun V => ref_small 1 V (by omega))
  have h2 := Lib.hid (fun V (h : Below w.heap.size w V) => bitsN 256 V (by omega) (hu.step h))
  have hBy := Lib.hid (fun x y V (hx : x < 2 ^ 256) (hy : y < 2 ^ 256) => fe_By x y V hx hy)
  have hlow := Lib.hid (fun x => Nat.lt_trans (lt_P (a := x)) P_lt)
  have hts := Lib.hid (toS_start a n)
  have hte := Lib.hid (toS_end (a := a) hn)
  have htl := Lib.hid (toS_lt a n)
  have ht0 := Lib.hid (fun s (h : n / 2 ^ s % 2 = 0) => toS_zero (a := a) h)
  have ht1 := Lib.hid (fun s v (h : n / 2 ^ s % 2 = 1) (hv : v % fP = a ^ 2 ^ s % fP) => toS_one h hv)
  have hsq := Lib.hid (fun s v (hv : v % fP = a ^ 2 ^ s % fP) => sq_step hv)
  have hv0 := Lib.hid (show a % fP = a ^ 2 ^ 0 % fP by rw [Nat.pow_zero, Nat.pow_one])
  obtain ⟨B, hB⟩ : ∃ B, (fun i => n / 2 ^ i % 2) = B := ⟨_, rfl⟩
  have hBi : ∀ i, n / 2 ^ i % 2 = B i := fun i => by rw [← hB]
  have hB01 : ∀ i, B i = 0 ∨ B i = 1 := fun i => by rw [← hBi]; omega
  obtain ⟨S, hS⟩ : ∃ S, (fun s => a ^ 2 ^ s % fP) = S := ⟨_, rfl⟩
  have hSi : ∀ i, a ^ 2 ^ i % fP = S i := fun i => by rw [← hS]
  simp only [hBi] at ht0 ht1
  simp only [hSi] at ht1 hsq hv0
  unfold BitsR at h2
  rw [hB] at h2
  obtain ⟨r, hr⟩ : ∃ r, a ^ n % fP = r := ⟨_, rfl⟩
  rw [hr] at hte ⊢
  obtain ⟨F, hF⟩ : ∃ F, toS a n = F := ⟨_, rfl⟩
  rw [hF] at hts hte htl ht0 ht1
  obtain ⟨p, hp⟩ : ∃ p, fP = p := ⟨_, rfl⟩
  rw [hp] at hBy hlow ht1 hsq hv0
  replace hB01 := Lib.hid hB01
  clear hp hF hr hB hBi hS hSi hu hn ha
  have hcz := arrK_cells .i64 16 fun _ => 0
  have hc1 := arrK_cells .i64 16 (dgt 1)
  unfold feV at h1 hBy ⊢
  have hL0 : Below w.heap.size w ((w.alloc (Obj.cells (arrK .i64 16 (dgt a)) 26)).alloc (Obj.cells (arrK .i64 16 fun _ => 0) 26)) := by go_grown
  have hA0 : At ((w.alloc (Obj.cells (arrK .i64 16 (dgt a)) 26)).alloc (Obj.cells (arrK .i64 16 fun _ => 0) 26)) w.heap.size .i64 16 (dgt a) := (At.new _ rfl).old _
  have hR0 : Row ((w.alloc (Obj.cells (arrK .i64 16 (dgt a)) 26)).alloc (Obj.cells (arrK .i64 16 fun _ => 0) 26)) (w.heap.size + 1) 16 := (At.new (k := .i64) (f := fun _ => 0) _ (by simp)).row
  have hL := Lib.hid hL0
  have hR := Lib.hid hR0
  have hA := Lib.hid hA0
  clear hL0 hR0 hA0
  go_enter Try.func99, Try.ntmps99
  go_upto_region 1 with (fail)
  generalize (w.alloc _).alloc _ = W0 at *
  go_wp2_with fail
  refine (h1.out _).mono ?_
  rintro e w2 ⟨rfl, hb⟩
  have hA2 := hA.out.step hb
  have hR2 := row_below hR.out hb hR.out.lt
  have hL2 := below_step hb hL.out (Nat.le_refl _)
  have hlt : w.heap.size + 1 < w2.heap.size := hR2.lt
  clear hA hR hL hb h1
  have hA := Lib.hid (hA2.old (Obj.cells (arrK .i64 16 (dgt 1)) 26))
  have hR := Lib.hid ((row_old (o := Obj.cells (arrK .i64 16 (dgt 1)) 26) hR2.lt).2 hR2)
  have hL := Lib.hid (Below.trans hL2 ((below_alloc w2 (Obj.cells (arrK .i64 16 (dgt 1)) 26)).mono hL2.size))
  have hX := Lib.hid (At.new (w := w2) (k := .i64) (m := 16) (f := dgt 1) 26 rfl)
  clear hA2 hR2 hL2
  dsimp only
  go_upto_region 2 with (fail)
  obtain ⟨g, hg⟩ : ∃ g, w2.heap.size = g := ⟨_, rfl⟩
  rw [hg] at hX hlt ⊢
  clear hg
  generalize w2.alloc _ = W1 at *
  have h2' := Lib.hid (h2.out W1 hL.out)
  clear h2
  go_wp2_with fail
  refine h2'.out.mono ?_
  rintro e w3 ⟨gb, rfl, hrow, heq, hgb, hb⟩
  have hlt2 : g < W1.heap.size := hX.out.lt
  replace hA := Lib.hid (hA.out.step hb)
  replace hX := Lib.hid (hX.out.step hb)
  replace hR := Lib.hid (row_below hR.out hb hR.out.lt)
  replace hL := Lib.hid (below_step hb hL.out (Nat.le_refl _))
  have hY := Lib.hid (show At w3 gb .i64 256 B from ⟨hrow, heq⟩)
  rw [← hts.out] at hX
  clear hrow heq hb h2'
  dsimp only
  go_wp2_with fail
  go_loopw [12] (fun i wr => ∃ (s v : Nat), i = .int .i64 s ∧ s ≤ 256 ∧ Hid (v < 2 ^ 256) ∧ Hid (v % p = S s) ∧ Hid (At wr w.heap.size .i64 16 (dgt v)) ∧ Hid (Row wr (w.heap.size + 1) 16) ∧ Hid (At wr g .i64 16 (dgt (F s))) ∧ Hid (At wr gb .i64 256 B) ∧ Hid (Below w.heap.size w wr)) (fun i _ => 256 - (intOf i).toNat)
  case atStart => exact ⟨0, a, rfl, by omega, hal, hv0, hA, hR, hX, hY, hL⟩
  case round =>
    clear hA hR hX hY hL hal hv0 hts
    obtain ⟨s, v, rfl, hs, hvl, hvS, hA, hR, hX, hY, hL⟩ := hrel
    by_cases h256 : s = 256
    · subst h256
      rw [hte.out] at hX
      rw [show ((256 : Nat) : Int) = 256 from rfl]
      have hr1 := hX.out.row
      have hr2 := hX.out.eq
      have hr3 := hR.out
      have hcr := arrK_cells .i64 16 (dgt r)
      clear hBy ht0 ht1 hsq
      go_wp2_with fail
      exact ret_stored (p := 4) (ty := 26) (g := w.heap.size + 1) (n := 16) (c := arrK .i64 16 (dgt r)) rfl Try.underlying26 rfl (by kernel_rfl) rfl hr3 hcr.1 rfl ⟨rfl, below_setRow hL.out (by omega)⟩
    · have hs256 : (s : Int) < 256 := by omega
      have cy := hY.out.cell (i := s) (by omega)
      have hB1 := Lib.hid (fun V => hBy.out (F s) v V (htl.out s) hvl.out)
      have hB2 := Lib.hid (fun V => hBy.out v v V hvl.out hvl.out)
      have hq := Lib.hid (hsq.out s v hvS.out)
      have hz0 := Lib.hid (ht0.out s)
      have hz1 := Lib.hid (fun h => ht1.out s v h hvS.out)
      have hql := Lib.hid (hlow.out (v * v))
      have hb01 := hB01.out s
      obtain ⟨q, hq'⟩ : ∃ q, v * v % p = q := ⟨_, rfl⟩
      rw [hq'] at hB2 hq hql
      obtain ⟨bt, hbt⟩ : ∃ q, B s = q := ⟨_, rfl⟩
      rw [hbt] at cy hz0 hz1 hb01
      clear hq' hbt hBy ht0 ht1 hsq hte hvl hvS
      have hne1 : w.heap.size ≠ g := by omega
      have hne2 : w.heap.size + 1 ≠ g := by omega
      have hne3 : gb ≠ g := by omega
      have hne4 : w.heap.size + 1 ≠ w.heap.size := by omega
      have hne5 : g ≠ w.heap.size := by omega
      have hne6 : gb ≠ w.heap.size := by omega
      have hlog : w.heap.size ≤ g := by omega
      rcases hb01 with rfl | rfl
      · have hF := hz0.out rfl
        rw [← hF] at hX
        rw [show ((0 : Nat) : Int) = 0 from rfl] at cy
        have hr1 := hA.out.row
        have hr2 := hA.out.eq
        clear hF hz0 hz1 hB1
        go_wp2_with fail
        refine (hB2.out _).mono ?_
        rintro e w5 ⟨rfl, hb⟩
        have ha5 := row_below hA.out.row hb hA.out.lt
        have hA6 := Lib.hid (At.put (k := .i64) (f := dgt q) ha5)
        have hX6 := Lib.hid ((hX.out.step hb).far (c := arrK .i64 16 (dgt q)) hne5)
        have hY6 := Lib.hid ((hY.out.step hb).far (c := arrK .i64 16 (dgt q)) hne6)
        have hR6 := Lib.hid ((row_setRow_far (c' := arrK .i64 16 (dgt q)) hne4).2 (row_below hR.out hb hR.out.lt))
        have hL6 := Lib.hid (below_setRow (c := arrK .i64 16 (dgt q)) (below_step hb hL.out (Nat.le_refl _)) (Nat.le_refl _))
        have hcq := arrK_cells .i64 16 (dgt q)
        clear hr1 hr2 hb hA hX hY hR hL hB2 cy
        dsimp only
        go_wp2_with fail
        go_roundw
        case rel => exact ⟨s + 1, q, by go_num, by omega, hql, hq, hA6, hR6, hX6, hY6, hL6⟩
        case measure => simp [intOf]; omega
      · have hF := Lib.hid (hz1.out rfl)
        rw [show ((1 : Nat) : Int) = 1 from rfl] at cy
        rw [hF.out] at hB1
        have hr1 := hA.out.row
        have hr2 := hA.out.eq
        have hr3 := hX.out.row
        have hr4 := hX.out.eq
        clear hF hz0 hz1
        go_wp2_with fail
        refine (hB1.out _).mono ?_
        rintro e w4 ⟨rfl, hb⟩
        have ha4 := row_below hX.out.row hb hX.out.lt
        have hX4 := Lib.hid (At.put (k := .i64) (f := dgt (F (s + 1))) ha4)
        have hA4 := Lib.hid ((hA.out.step hb).far (c := arrK .i64 16 (dgt (F (s + 1)))) hne1)
        have hY4 := Lib.hid ((hY.out.step hb).far (c := arrK .i64 16 (dgt (F (s + 1)))) hne3)
        have hR4 := Lib.hid ((row_setRow_far (c' := arrK .i64 16 (dgt (F (s + 1)))) hne2).2 (row_below hR.out hb hR.out.lt))
        have hL4 := Lib.hid (below_setRow (c := arrK .i64 16 (dgt (F (s + 1)))) (below_step hb hL.out (Nat.le_refl _)) hlog)
        have hcq4 := arrK_cells .i64 16 (dgt (F (s + 1)))
        clear hr1 hr2 hr3 hr4 hb hA hX hY hR hL hB1 cy
        have hr1 := hA4.out.row
        have hr2 := hA4.out.eq
        dsimp only
        go_wp2_with fail
        refine (hB2.out _).mono ?_
        rintro e w5 ⟨rfl, hb⟩
        have ha5 := row_below hA4.out.row hb hA4.out.lt
        have hA6 := Lib.hid (At.put (k := .i64) (f := dgt q) ha5)
        have hX6 := Lib.hid ((hX4.out.step hb).far (c := arrK .i64 16 (dgt q)) hne5)
        have hY6 := Lib.hid ((hY4.out.step hb).far (c := arrK .i64 16 (dgt q)) hne6)
        have hR6 := Lib.hid ((row_setRow_far (c' := arrK .i64 16 (dgt q)) hne4).2 (row_below hR4.out hb hR4.out.lt))
        have hL6 := Lib.hid (below_setRow (c := arrK .i64 16 (dgt q)) (below_step hb hL4.out (Nat.le_refl _)) (Nat.le_refl _))
        have hcq := arrK_cells .i64 16 (dgt q)
        clear hr1 hr2 hb hA4 hX4 hY4 hR4 hL4 hB2
        dsimp only
        go_wp2_with fail
        go_roundw
        case rel => exact ⟨s + 1, q, by go_num, by omega, hql, hq, hA6, hR6, hX6, hY6, hL6⟩
        case measure => simp [intOf]; omega
def SRel.fN (m : Nat) : SRel := ⟨fun v w => IsN w v m, fun _ _ _ hb h => h.step hb⟩
def SRel.fV (m : Nat) : SRel := ⟨fun v w => IsV w v m, fun _ _ _ hb h => h.step hb⟩
theorem fe_Over (av : Nat) (w : World) (ha : av < 2 ^ 256) : Calls Try.prog 27 #[feV av] w fun e w' => e = .returned (feV (invP av)) ∧ Below w.heap.size w w' := by
  have h2 := Lib.hid (fun V => ref_Modulus V)
  have h3 := Lib.hid (fun u v V (hu : IsN V u fP) (hv : IsV V v 2) => minusN V (hu.toV P_big) hv (Nat.le_trans (by omega) (Nat.le_of_lt fP_pos)))
  have hq : fP - 2 < 2 ^ 256 := Nat.lt_of_le_of_lt (Nat.sub_le _ _) P_lt
  have hT := Lib.hid (fun u V (hu : IsN V u (fP - 2)) => fe_To av (fP - 2) u V ha hq (hu.toV (lt_big hq (by omega))))
  unfold invP
  obtain ⟨r, hr⟩ : ∃ r, av ^ (fP - 2) % fP = r := ⟨_, rfl⟩
  rw [hr] at hT ⊢
  obtain ⟨q, hq'⟩ : ∃ r, fP - 2 = r := ⟨_, rfl⟩
  rw [hq'] at h3 hT
  obtain ⟨p, hp⟩ : ∃ r, fP = r := ⟨_, rfl⟩
  rw [hp] at h2 h3
  clear hr hp hq' hq ha
  have hcr := arrK_cells .i64 16 (dgt r)
  have hcz := arrK_cells .i64 16 fun _ => 0
  unfold feV at hT ⊢
  have hL0 : Below w.heap.size w ((w.alloc (Obj.cells (arrK .i64 16 (dgt av)) 26)).alloc (Obj.cells (arrK .i64 16 fun _ => 0) 26)) := by go_grown
  have hA0 : At ((w.alloc (Obj.cells (arrK .i64 16 (dgt av)) 26)).alloc (Obj.cells (arrK .i64 16 fun _ => 0) 26)) w.heap.size .i64 16 (dgt av) := (At.new _ rfl).old _
  have hR0 : Row ((w.alloc (Obj.cells (arrK .i64 16 (dgt av)) 26)).alloc (Obj.cells (arrK .i64 16 fun _ => 0) 26)) (w.heap.size + 1) 16 := (At.new (k := .i64) (f := fun _ => 0) _ (by simp)).row
  have hL := Lib.hid hL0
  have hR := Lib.hid hR0
  have hA := Lib.hid hA0
  clear hL0 hR0 hA0
  go_enter Try.func27, Try.ntmps27
  go_upto_region 1 with (fail)
  generalize (w.alloc _).alloc _ = W0 at *
  generalize ha0 : Act.mk _ _ = a0
  have e1 : a0.tmps[1]?.getD undef = .pointer (some ⟨w.heap.size, 0, none⟩) := by rw [← ha0]; rfl
  have e2 : a0.tmps[2]?.getD undef = .pointer (some ⟨w.heap.size + 1, 0, none⟩) := by rw [← ha0]; rfl
  have hz0 : a0.tmps.size = 8 := by rw [← ha0]; rfl
  have hha0 := Lib.hid ha0
  clear ha0
  refine wp_region_tail (fun jx_ => match jx_ with | 0 => SRel.is (.agg (arrK .i64 16 (dgt av))) | 1 => SRel.fN p | 2 => SRel.fV 2 | 3 => SRel.fN q | 4 => SRel.is (.agg (arrK .i64 16 (dgt r))) | 5 => SRel.any | _ => SRel.any) 5 (by kernel_rfl) (by kernel_rfl) (by kernel_rfl) (slotsOk_of hz0 (by kernel_rfl)) (by kernel_rfl) ⟨?_, ?_, ?_, ?_, ?_, ?_, trivial⟩ (of_decide_eq_true (by kernel_rfl))
  · rw [if_neg (by decide)]
    refine calmT_step rfl fun a ω κ hb hu hc hK => ?_
    have h1 : a.tmps[1]?.getD undef = .pointer (some ⟨w.heap.size, 0, none⟩) := (hu 1 rfl).trans e1
    have hk := Lib.hid (fun w1 (h : Below ω.heap.size ω w1) => hK (.agg (arrK .i64 16 (dgt av))) w1 rfl h)
    clear hK hu hc
    have hr1 := (hA.out.step hb).row
    have hr2 := (hA.out.step hb).eq
    go_simp
    exact hk.out _ (Below.refl _ _)
  · rw [if_neg (by decide)]
    refine calmT_step rfl fun a ω κ hb hu hc hK => ?_
    have hk := Lib.hid (fun v w1 (hv : (SRel.fN p).p v w1) (h : Below ω.heap.size ω w1) => hK v w1 hv h)
    clear hK hu hc
    go_simp
    go_at_call 17
    refine (h2.out _).mono ?_
    rintro e w1 ⟨u, rfl, hu1, hb1⟩
    exact hk.out _ _ hu1 hb1
  · rw [if_neg (by decide)]
    refine calmT_step rfl fun a ω κ hb hu hc hK => ?_
    have hk := Lib.hid (fun v w1 (hv : (SRel.fV 2).p v w1) (h : Below ω.heap.size ω w1) => hK v w1 hv h)
    clear hK hu hc
    go_simp
    exact hk.out _ _ (IsV.lit ω 3 (d := 2) (by omega)) (below_alloc _ _)
  · rw [if_neg (by decide)]
    refine calmT_step rfl fun a ω κ hb hu hc hK => ?_
    have h4 : (SRel.fN p).p (a.tmps[4]?.getD undef) ω := hc 1 4 rfl rfl
    have h5 : (SRel.fV 2).p (a.tmps[5]?.getD undef) ω := hc 2 5 rfl rfl
    have hk := Lib.hid (fun v w1 (hv : (SRel.fN q).p v w1) (h : Below ω.heap.size ω w1) => hK v w1 hv h)
    clear hK hu hc
    go_simp
    go_at_call 71
    refine (h3.out _ _ _ h4 h5).mono ?_
    rintro e w1 ⟨u, rfl, hu1, hb1⟩
    exact hk.out _ _ hu1.toN hb1
  · rw [if_neg (by decide)]
    refine calmT_step rfl fun a ω κ hb hu hc hK => ?_
    have h3 : a.tmps[3]?.getD undef = .agg (arrK .i64 16 (dgt av)) := hc 0 3 rfl rfl
    have h6 : (SRel.fN q).p (a.tmps[6]?.getD undef) ω := hc 3 6 rfl rfl
    have hk := Lib.hid (fun w1 (h : Below ω.heap.size ω w1) => hK (.agg (arrK .i64 16 (dgt r))) w1 rfl h)
    clear hK hu hc
    go_simp
    go_at_call 99
    refine (hT.out _ _ h6).mono ?_
    rintro e w1 ⟨rfl, hb1⟩
    exact hk.out _ hb1
  · rw [if_pos rfl]
    refine last_of rfl fun aa ω hb hu hsz hdf hc => ?_
    have h2 : aa.tmps[2]?.getD undef = .pointer (some ⟨w.heap.size + 1, 0, none⟩) := (hu 2 rfl).trans e2
    have h7 : aa.tmps[7]?.getD undef = .agg (arrK .i64 16 (dgt r)) := hc 4 7 (by decide) rfl
    have hHz := Lib.hid (And.intro hu (And.intro hsz hdf))
    clear hc hu hsz hdf hz0
    have hr1 := row_below hR.out hb hR.out.lt
    have hL2 := Lib.hid (below_step hb hL.out (Nat.le_refl _))
    go_simp
    have ha0 := hha0.out
    subst ha0
    have he := act_patchT (n := 8) 5 [false, false, false, true, true, true, true, true] rfl (by kernel_rfl) hHz.out.1 hHz.out.2.1 hHz.out.2.2
    simp only [patch, cond_true, cond_false, Nat.reduceAdd] at he
    clear hHz hha0 e1 e2
    rw [he]
    clear he
    generalize aa.tmps[3]?.getD undef = x3 at *
    generalize aa.tmps[4]?.getD undef = x4 at *
    generalize aa.tmps[5]?.getD undef = x5 at *
    generalize aa.tmps[6]?.getD undef = x6 at *
    generalize aa.tmps[7]?.getD undef = x7 at *
    go_wp2_with fail
    exact ret_stored (p := 2) (ty := 26) (g := w.heap.size + 1) (n := 16) (c := arrK .i64 16 (dgt r)) rfl Try.underlying26 rfl (by kernel_rfl) rfl hr1 hcr.1 rfl ⟨rfl, below_setRow hL2.out (by omega)⟩
end Go.Proofs.Ytodcjeaannfbnaa
namespace Go.Proofs.Ytodcjeaannfbnaa
open Go.ChangeShapes Go.WideShapes Go.ChangeAt Go.RowKit
set_option maxHeartbeats 2000000
set_option maxRecDepth 100000
theorem load_rp {w : World} {dst : Option Tmp} {x : Operand} {tt : TypeId} {pos : String} {af : Array Edge} {gd : Option (Nat × Bool)} {a : Act} {K : Act → World → Prop} {Q : Exit → Act → World → Prop}
    (hv : IsHead (a.eval x)) (h : Row w (blkOf (a.eval x)) 48) : Oper.wp Try.prog ⟨dst, .load 48 x, tt, pos, af, gd⟩ a w K Q ↔ K (a.put dst (.agg (rowAt w (blkOf (a.eval x))))) w :=
  wp_load_whole Try.underlying48 rfl (by kernel_rfl) hv h
theorem store_rp {w : World} {dst : Option Tmp} {x y : Operand} {tt : TypeId} {pos : String} {af : Array Edge} {gd : Option (Nat × Bool)} {a : Act} {K : Act → World → Prop} {Q : Exit → Act → World → Prop}
    (hv : IsHead (a.eval x)) (h : Row w (blkOf (a.eval x)) 48) (hx : IsAgg (a.eval y) 48) : Oper.wp Try.prog ⟨dst, .store 48 x y, tt, pos, af, gd⟩ a w K Q ↔ K (a.put dst undef) (w.setRow (blkOf (a.eval x)) (cellsV (a.eval y))) :=
  wp_store_whole (by kernel_rfl) hv h hx
theorem execl_rp {w : World} {dst : Option Tmp} {x : Operand} {tt : TypeId} {pos : String} {af : Array Edge} {gd : Option (Nat × Bool)} {ρ : Operand → Value}
    (hv : IsHead (ρ x)) (h : Row w (blkOf (ρ x)) 48) : (execOp ρ ⟨dst, .load 48 x, tt, pos, af, gd⟩).run Try.prog w = .ok (.value (.agg (rowAt w (blkOf (ρ x))))) w :=
  exec_load_whole Try.underlying48 rfl (by kernel_rfl) hv h
theorem execs_rp {w : World} {dst : Option Tmp} {x y : Operand} {tt : TypeId} {pos : String} {af : Array Edge} {gd : Option (Nat × Bool)} {ρ : Operand → Value}
    (hv : IsHead (ρ x)) (h : Row w (blkOf (ρ x)) 48) (hx : IsAgg (ρ y) 48) : (execOp ρ ⟨dst, .store 48 x y, tt, pos, af, gd⟩).run Try.prog w = .ok .skip (w.setRow (blkOf (ρ x)) (cellsV (ρ y))) :=
  exec_store_whole (by kernel_rfl) hv h hx

theorem load_feP {w : World} {dst : Option Tmp} {x : Operand} {tt : TypeId} {pos : String} {af : Array Edge} {gd : Option (Nat × Bool)} {a : Act} {K : Act → World → Prop} {Q : Exit → Act → World → Prop} (h : LdOk w 16 (a.eval x)) : Oper.wp Try.prog ⟨dst, .load 26 x, tt, pos, af, gd⟩ a w K Q ↔ K (a.put dst (.agg (ldC w 16 (a.eval x)))) w := wp_load_el Try.underlying26 rfl (by kernel_rfl) h
def cat3 (f0 f1 f2 : Nat → Nat) (i : Nat) : Nat := if i < 16 then f0 i else if i < 32 then f1 (i - 16) else f2 (i - 32)
section
variable {w : World} {g : Nat} {f0 f1 f2 : Nat → Nat}
theorem rp_0 (h : At w g .i64 48 (cat3 f0 f1 f2)) : LdOk w 16 (.pointer (some ⟨g, 0, none⟩)) ∧ ldC w 16 (.pointer (some ⟨g, 0, none⟩)) = arrK .i64 16 f0 := by
  refine ⟨(h.fld (by omega)).1, (h.fld (by omega)).2.trans (arrK_congr fun i hi => ?_)⟩
  unfold cat3; rw [if_pos (by omega), Nat.zero_add]
theorem rp_1 (h : At w g .i64 48 (cat3 f0 f1 f2)) : LdOk w 16 (.pointer (some ⟨g, 16, none⟩)) ∧ ldC w 16 (.pointer (some ⟨g, 16, none⟩)) = arrK .i64 16 f1 := by
  refine ⟨(h.fld (by omega)).1, (h.fld (by omega)).2.trans (arrK_congr fun i hi => ?_)⟩
  unfold cat3; rw [if_neg (by omega), if_pos (by omega), Nat.add_sub_cancel_left]
theorem rp_2 (h : At w g .i64 48 (cat3 f0 f1 f2)) : LdOk w 16 (.pointer (some ⟨g, 32, none⟩)) ∧ ldC w 16 (.pointer (some ⟨g, 32, none⟩)) = arrK .i64 16 f2 := by
  refine ⟨(h.fld (by omega)).1, (h.fld (by omega)).2.trans (arrK_congr fun i hi => ?_)⟩
  unfold cat3; rw [if_neg (by omega), if_neg (by omega), Nat.add_sub_cancel_left]
end
def rpV (x y z : Nat) : Value := .agg (arrK .i64 48 (cat3 (dgt x) (dgt y) (dgt z)))
theorem build_rp (f0 f1 f2 : Nat → Nat) (w : World) : (Instr.build 48 #[(0, .agg (arrK .i64 16 f0)), (1, .agg (arrK .i64 16 f1)), (2, .agg (arrK .i64 16 f2))]).run Try.prog w = .ok (.agg (arrK .i64 48 (cat3 f0 f1 f2))) w := run_build w _ _ _ (by kernel_rfl)
theorem zeroRp : #[Value.int IntKind.i64 0, Value.int IntKind.i64 0, Value.int IntKind.i64 0, Value.int IntKind.i64 0, Value.int IntKind.i64 0, Value.int IntKind.i64 0, Value.int IntKind.i64 0, Value.int IntKind.i64 0, Value.int IntKind.i64 0, Value.int IntKind.i64 0, Value.int IntKind.i64 0, Value.int IntKind.i64 0, Value.int IntKind.i64 0, Value.int IntKind.i64 0, Value.int IntKind.i64 0, Value.int IntKind.i64 0, Value.int IntKind.i64 0, Value.int IntKind.i64 0, Value.int IntKind.i64 0, Value.int IntKind.i64 0, Value.int IntKind.i64 0, Value.int IntKind.i64 0, Value.int IntKind.i64 0, Value.int IntKind.i64 0, Value.int IntKind.i64 0, Value.int IntKind.i64 0, Value.int IntKind.i64 0, Value.int IntKind.i64 0, Value.int IntKind.i64 0, Value.int IntKind.i64 0, Value.int IntKind.i64 0, Value.int IntKind.i64 0, Value.int IntKind.i64 0, Value.int IntKind.i64 0, Value.int IntKind.i64 0, Value.int IntKind.i64 0, Value.int IntKind.i64 0, Value.int IntKind.i64 0, Value.int IntKind.i64 0, Value.int IntKind.i64 0, Value.int IntKind.i64 0, Value.int IntKind.i64 0, Value.int IntKind.i64 0, Value.int IntKind.i64 0, Value.int IntKind.i64 0, Value.int IntKind.i64 0, Value.int IntKind.i64 0, Value.int IntKind.i64 0] = arrK .i64 48 (cat3 (fun _ => 0) (fun _ => 0) (fun _ => 0)) := by kernel_rfl
section
variable {P : Program} {ops : Array Oper} {rest : List Oper} {o : Oper} {a : Act} {w : World} {K : Act → World → Prop} {Q : Exit → Act → World → Prop} {t : TypeId} {i0 i1 i2 : Nat} {x0 x1 x2 : Operand} {u v0 v1 v2 : Value}
theorem wp_bldC (ho : o.op = .build t #[(i0, x0), (i1, x1), (i2, x2)]) (h0 : a.eval x0 = v0) (h1 : a.eval x1 = v1) (h2 : a.eval x2 = v2) (hr : (Instr.build t #[(i0, v0), (i1, v1), (i2, v2)]).run P w = .ok u w) (h : K (a.put o.dst u) w) : Oper.wp P o a w K Q := by
  subst h0 h1 h2
  obtain ⟨dst, op, tt, pos, af, gd⟩ := o
  subst ho
  unfold Oper.wp execOp
  simp only [List.map_toArray, List.map_cons, List.map_nil, Sem.run_bind, hr, Result.andThen_ok]
  exact h
theorem wpList_bldC (hgd : o.guard = none) (ho : o.op = .build t #[(i0, x0), (i1, x1), (i2, x2)]) (h0 : a.eval x0 = v0) (h1 : a.eval x1 = v1) (h2 : a.eval x2 = v2) (hr : (Instr.build t #[(i0, v0), (i1, v1), (i2, v2)]).run P w = .ok u w) (h : wpList P ops Q rest (a.put o.dst u) w) : wpList P ops Q (o :: rest) a w :=
  wpList_step fun K hK => by
    have hw : Region.wanted o (yielded ops a.tmps) = true := by simp [Region.wanted, hgd]
    rw [if_pos hw]
    exact wp_bldC ho h0 h1 h2 hr (hK _ _ h)
end
section
variable {P : Program} {ops : Array Oper} {rest : List Oper} {o : Oper} {a : Act} {w : World} {Q : Exit → Act → World → Prop} {t : TypeId} {parts : Array (Nat × Operand)} {vs : Array (Nat × Value)} {u : Value}
theorem wpList_bldN (hgd : o.guard = none) (ho : o.op = .build t parts) (hv : (parts.map fun p => (p.1, a.eval p.2)) = vs) (hr : (Instr.build t vs).run P w = .ok u w) (h : wpList P ops Q rest (a.put o.dst u) w) : wpList P ops Q (o :: rest) a w :=
  wpList_step fun K hK => by
    have hw : Region.wanted o (yielded ops a.tmps) = true := by simp [Region.wanted, hgd]
    rw [if_pos hw]
    subst hv
    obtain ⟨dst, op, tt, pos, af, gd⟩ := o
    subst ho
    unfold Oper.wp execOp
    simp only [Sem.run_bind, hr, Result.andThen_ok]
    exact hK _ _ h
end
theorem build_d (w : World) : (Instr.build 26 #[(0, Value.int IntKind.i64 30883), (1, Value.int IntKind.i64 4953), (2, Value.int IntKind.i64 19914), (3, Value.int IntKind.i64 30187), (4, Value.int IntKind.i64 55467), (5, Value.int IntKind.i64 16705), (6, Value.int IntKind.i64 2637), (7, Value.int IntKind.i64 112), (8, Value.int IntKind.i64 59544), (9, Value.int IntKind.i64 30585), (10, Value.int IntKind.i64 16505), (11, Value.int IntKind.i64 36039), (12, Value.int IntKind.i64 65139), (13, Value.int IntKind.i64 11119), (14, Value.int IntKind.i64 27886), (15, Value.int IntKind.i64 20995)]).run Try.prog w = .ok (.agg (arrK .i64 16 (dgt dN))) w := run_build w _ _ _ (by kernel_rfl)
attribute [local go_sem ↓] load_fe store_fe
attribute [local go_sem] isHead_mk blkOf_mk isAgg_mk cellsV_mk row_drew rowAt_drew row_new_cells row_old rowAt_new rowAt_old setRow_new zeroFe
theorem ref_dOf (w : World) : Calls Try.prog 105 #[] w fun e w' => e = .returned (feV dN) ∧ Below w.heap.size w w' := by
  unfold feV
  have hl := Lib.hid (fun V => build_d V)
  obtain ⟨F, hF⟩ : ∃ F, dgt dN = F := ⟨_, rfl⟩
  rw [hF] at hl ⊢
  clear hF
  have hcz := arrK_cells .i64 16 fun _ => 0
  have hcp := arrK_cells .i64 16 F
  have hL0 := below_alloc w (Obj.cells (arrK .i64 16 fun _ => 0) 26)
  have hR0 : Row (w.alloc (Obj.cells (arrK .i64 16 fun _ => 0) 26)) w.heap.size 16 := (row_new rfl).2 hcz.1
  go_enter Try.func105, Try.ntmps105
  go_upto_region 1 with (fail)
  generalize w.alloc _ = W0 at *
  go_wp2_with (refine wpList_bldN (vs := #[(0, Value.int IntKind.i64 30883), (1, Value.int IntKind.i64 4953), (2, Value.int IntKind.i64 19914), (3, Value.int IntKind.i64 30187), (4, Value.int IntKind.i64 55467), (5, Value.int IntKind.i64 16705), (6, Value.int IntKind.i64 2637), (7, Value.int IntKind.i64 112), (8, Value.int IntKind.i64 59544), (9, Value.int IntKind.i64 30585), (10, Value.int IntKind.i64 16505), (11, Value.int IntKind.i64 36039), (12, Value.int IntKind.i64 65139), (13, Value.int IntKind.i64 11119), (14, Value.int IntKind.i64 27886), (15, Value.int IntKind.i64 20995)]) rfl rfl (by simp [Act.eval]) (hl.out _) ?_)
  exact ret_stored (p := 0) (ty := 26) (g := w.heap.size) (n := 16) (c := arrK .i64 16 F) rfl Try.underlying26 rfl (by kernel_rfl) rfl hR0 hcp.1 rfl ⟨rfl, below_setRow hL0 (Nat.le_refl _)⟩
end Go.Proofs.Ytodcjeaannfbnaa
namespace Go.Proofs.Ytodcjeaannfbnaa
open Go.ChangeShapes Go.WideShapes Go.ChangeAt Go.RowKit
set_option maxHeartbeats 2000000
set_option maxRecDepth 100000
attribute [local go_sem ↓] load_fld load_feP load_num store_num load_fe store_fe load_pt store_pt load_rp store_rp
attribute [local go_sem] isHead_mk blkOf_mk isAgg_mk cellsV_mk row_drew rowAt_drew row_new_cells row_old rowAt_new rowAt_old setRow_new zeroNum zeroPt zeroFe zeroRp
theorem ref_PtOf (x y : Nat) (w : World) (hx : x < 2 ^ 256) (hy : y < 2 ^ 256) : Calls Try.prog 30 #[ptV x y] w fun e w' => e = .returned (rpV (x % fP) (y % fP) 1) ∧ Below w.heap.size w w' := by
  have hF1 := Lib.hid (fun V => ref_Field x V hx)
  have hF2 := Lib.hid (fun V => ref_Field y V hy)
  have h1 := Lib.hid (fun V => ref_small 1 V (by omega))
  obtain ⟨p, hp⟩ : ∃ m, x % fP = m := ⟨_, rfl⟩
  obtain ⟨q, hq⟩ : ∃ m, y % fP = m := ⟨_, rfl⟩
  rw [hp] at hF1 ⊢
  rw [hq] at hF2 ⊢
  clear hp hq hx hy
  unfold numV feV at hF1 hF2
  unfold feV at h1
  rw [show ((1 : Nat) : Int) = 1 from rfl] at h1
  unfold ptV rpV
  have hcq := arrK_cells .i64 48 (cat3 (dgt p) (dgt q) (dgt 1))
  have hcz := arrK_cells .i64 48 (cat3 (fun _ => 0) (fun _ => 0) (fun _ => 0))
  have hL0 : Below w.heap.size w ((w.alloc (Obj.cells (arrK .u64 8 (cat2 (wd x) (wd y))) 42)).alloc (Obj.cells (arrK .i64 48 (cat3 (fun _ => 0) (fun _ => 0) (fun _ => 0))) 48)) := by go_grown
  have hA0 : At ((w.alloc (Obj.cells (arrK .u64 8 (cat2 (wd x) (wd y))) 42)).alloc (Obj.cells (arrK .i64 48 (cat3 (fun _ => 0) (fun _ => 0) (fun _ => 0))) 48)) w.heap.size .u64 8 (cat2 (wd x) (wd y)) := (At.new _ rfl).old _
  have hR0 : Row ((w.alloc (Obj.cells (arrK .u64 8 (cat2 (wd x) (wd y))) 42)).alloc (Obj.cells (arrK .i64 48 (cat3 (fun _ => 0) (fun _ => 0) (fun _ => 0))) 48)) (w.heap.size + 1) 48 := (At.new (k := .i64) (f := (cat3 (fun _ => 0) (fun _ => 0) (fun _ => 0))) _ (by simp)).row
  have hL := Lib.hid hL0
  have hR := Lib.hid hR0
  have hA := Lib.hid hA0
  clear hL0 hR0 hA0
  go_enter Try.func30, Try.ntmps30
  go_upto_region 1 with (fail)
  generalize (w.alloc _).alloc _ = W0 at *
  generalize ha0 : Act.mk _ _ = a0
  have e1 : a0.tmps[1]?.getD undef = .pointer (some ⟨w.heap.size, 0, none⟩) := by rw [← ha0]; rfl
  have e2 : a0.tmps[2]?.getD undef = .pointer (some ⟨w.heap.size + 1, 0, none⟩) := by rw [← ha0]; rfl
  have hz0 : a0.tmps.size = 11 := by rw [← ha0]; rfl
  have hha0 := Lib.hid ha0
  clear ha0
  refine wp_region_one (fun jx_ => match jx_ with | 0 => some (.pointer (some ⟨w.heap.size, 0, none⟩)) | 1 => some (.agg (arrK .u64 4 (wd x))) | 2 => some (.agg (arrK .i64 16 (dgt p))) | 3 => some (.pointer (some ⟨w.heap.size, 4, none⟩)) | 4 => some (.agg (arrK .u64 4 (wd y))) | 5 => some (.agg (arrK .i64 16 (dgt q))) | 6 => some (.agg (arrK .i64 16 (dgt 1))) | 7 => some (.agg (arrK .i64 48 (cat3 (dgt p) (dgt q) (dgt 1)))) | _ => none) 8 ((w.heap.size + 1)) 48 (arrK .i64 48 (cat3 (dgt p) (dgt q) (dgt 1))) (by kernel_rfl) (by kernel_rfl) (by kernel_rfl) (slotsOk_of hz0 (by kernel_rfl)) (of_decide_eq_true (by kernel_rfl)) hR.out ⟨?_, ?_, ?_, ?_, ?_, ?_, ?_, ?_, ?_, trivial⟩ ?_
  · refine one_before (by decide) (by kernel_rfl) (calm_step rfl fun aa ω κ hb hu hc hK => ?_)
    have h1 : aa.tmps[1]?.getD undef = .pointer (some ⟨w.heap.size, 0, none⟩) := (hu 1 rfl).trans e1
    have hk := Lib.hid (fun w1 (h : Below ω.heap.size ω w1) => hK (.pointer (some ⟨w.heap.size, 0, none⟩)) w1 rfl h)
    clear hK hu hc
    go_simp
    exact hk.out _ (Below.refl _ _)
  · refine one_before (by decide) (by kernel_rfl) (calm_step rfl fun aa ω κ hb hu hc hK => ?_)
    have h3 : aa.tmps[3]?.getD undef = .pointer (some ⟨w.heap.size, 0, none⟩) := hc 0 3 rfl rfl
    have hk := Lib.hid (fun w1 (h : Below ω.heap.size ω w1) => hK (.agg (arrK .u64 4 (wd x))) w1 rfl h)
    clear hK hu hc
    have hl := pt_0 (hA.out.step hb)
    have hl1 := hl.1
    have hl2 := hl.2
    go_simp
    exact hk.out _ (Below.refl _ _)
  · refine one_before (by decide) (by kernel_rfl) (calm_step rfl fun aa ω κ hb hu hc hK => ?_)
    have h4 : aa.tmps[4]?.getD undef = .agg (arrK .u64 4 (wd x)) := hc 1 4 rfl rfl
    have hk := Lib.hid (fun w1 (h : Below ω.heap.size ω w1) => hK (.agg (arrK .i64 16 (dgt p))) w1 rfl h)
    clear hK hu hc
    go_simp
    go_at_call 12
    refine (hF1.out _).mono ?_
    rintro e w1 ⟨rfl, hb1⟩
    exact hk.out _ hb1
  · refine one_before (by decide) (by kernel_rfl) (calm_step rfl fun aa ω κ hb hu hc hK => ?_)
    have h1 : aa.tmps[1]?.getD undef = .pointer (some ⟨w.heap.size, 0, none⟩) := (hu 1 rfl).trans e1
    have hk := Lib.hid (fun w1 (h : Below ω.heap.size ω w1) => hK (.pointer (some ⟨w.heap.size, 4, none⟩)) w1 rfl h)
    clear hK hu hc
    go_simp
    exact hk.out _ (Below.refl _ _)
  · refine one_before (by decide) (by kernel_rfl) (calm_step rfl fun aa ω κ hb hu hc hK => ?_)
    have h6 : aa.tmps[6]?.getD undef = .pointer (some ⟨w.heap.size, 4, none⟩) := hc 3 6 rfl rfl
    have hk := Lib.hid (fun w1 (h : Below ω.heap.size ω w1) => hK (.agg (arrK .u64 4 (wd y))) w1 rfl h)
    clear hK hu hc
    have hl := pt_1 (hA.out.step hb)
    have hl1 := hl.1
    have hl2 := hl.2
    go_simp
    exact hk.out _ (Below.refl _ _)
  · refine one_before (by decide) (by kernel_rfl) (calm_step rfl fun aa ω κ hb hu hc hK => ?_)
    have h7 : aa.tmps[7]?.getD undef = .agg (arrK .u64 4 (wd y)) := hc 4 7 rfl rfl
    have hk := Lib.hid (fun w1 (h : Below ω.heap.size ω w1) => hK (.agg (arrK .i64 16 (dgt q))) w1 rfl h)
    clear hK hu hc
    go_simp
    go_at_call 12
    refine (hF2.out _).mono ?_
    rintro e w1 ⟨rfl, hb1⟩
    exact hk.out _ hb1
  · refine one_before (by decide) (by kernel_rfl) (calm_step rfl fun aa ω κ hb hu hc hK => ?_)
    have hk := Lib.hid (fun w1 (h : Below ω.heap.size ω w1) => hK (.agg (arrK .i64 16 (dgt 1))) w1 rfl h)
    clear hK hu hc
    go_simp
    go_at_call 89
    refine (h1.out _).mono ?_
    rintro e w1 ⟨rfl, hb1⟩
    exact hk.out _ hb1
  · refine one_before (by decide) (by kernel_rfl) (calm_step rfl fun aa ω κ hb hu hc hK => ?_)
    have h5 : aa.tmps[5]?.getD undef = .agg (arrK .i64 16 (dgt p)) := hc 2 5 rfl rfl
    have h8 : aa.tmps[8]?.getD undef = .agg (arrK .i64 16 (dgt q)) := hc 5 8 rfl rfl
    have h9 : aa.tmps[9]?.getD undef = .agg (arrK .i64 16 (dgt 1)) := hc 6 9 rfl rfl
    have hk := Lib.hid (fun w1 (h : Below ω.heap.size ω w1) => hK (.agg (arrK .i64 48 (cat3 (dgt p) (dgt q) (dgt 1)))) w1 rfl h)
    clear hK hu hc
    exact wp_bldC (v0 := .agg (arrK .i64 16 (dgt p))) (v1 := .agg (arrK .i64 16 (dgt q))) (v2 := .agg (arrK .i64 16 (dgt 1))) rfl (by go_simp) (by go_simp) (by go_simp) (build_rp _ _ _ _) (hk.out _ (Below.refl _ _))
  · refine one_q (one_write rfl rfl fun aa ω κ hb hu hc hr hK => ?_)
    have h2 : aa.tmps[2]?.getD undef = .pointer (some ⟨w.heap.size + 1, 0, none⟩) := (hu 2 rfl).trans e2
    have h10 : aa.tmps[10]?.getD undef = .agg (arrK .i64 48 (cat3 (dgt p) (dgt q) (dgt 1))) := hc 7 10 rfl rfl
    have hk := Lib.hid hK
    clear hK hu hc
    have hcc := hcq
    go_simp
    exact hk.out undef
  · intro a1 w1 hb1 hu1 hsz1 hdf1 hv1
    have ha0 := hha0.out
    subst ha0
    have he := act_patch (n := 11) [false, false, false, true, true, true, true, true, true, true, true] rfl (by kernel_rfl) hu1 hsz1 hdf1
    simp only [patch, cond_true, cond_false, Nat.reduceAdd] at he
    have hXz := (At.put (k := .i64) (f := (cat3 (dgt p) (dgt q) (dgt 1))) hR.out).below hb1 (by simpa using hR.out.lt)
    have hLz := Lib.hid (Below.trans (below_setRow (c := arrK .i64 48 (cat3 (dgt p) (dgt q) (dgt 1))) hL.out (by omega)) (hb1.mono (by simpa using hL.out.size)))
    clear hR hL hA hF1 hF2 h1
    clear hb1 hu1 hsz1 hdf1 hv1 hz0 hha0 e1 e2
    rw [he]
    clear he
    generalize a1.tmps[3]?.getD undef = x3 at *
    generalize a1.tmps[4]?.getD undef = x4 at *
    generalize a1.tmps[5]?.getD undef = x5 at *
    generalize a1.tmps[6]?.getD undef = x6 at *
    generalize a1.tmps[7]?.getD undef = x7 at *
    generalize a1.tmps[8]?.getD undef = x8 at *
    generalize a1.tmps[9]?.getD undef = x9 at *
    generalize a1.tmps[10]?.getD undef = x10 at *
    go_wp2_with fail
    refine ret_row (p := 2) (ty := 48) (g := (w.heap.size + 1)) rfl Try.underlying48 rfl (by kernel_rfl) rfl hXz.row rfl ?_
    rw [hXz.eq]
    exact ⟨rfl, hLz.out⟩
theorem build_rX (w : World) : (Instr.build 26 #[(0, Value.int IntKind.i64 54554), (1, Value.int IntKind.i64 36645), (2, Value.int IntKind.i64 11616), (3, Value.int IntKind.i64 51542), (4, Value.int IntKind.i64 42930), (5, Value.int IntKind.i64 38181), (6, Value.int IntKind.i64 51040), (7, Value.int IntKind.i64 26924), (8, Value.int IntKind.i64 56412), (9, Value.int IntKind.i64 64982), (10, Value.int IntKind.i64 57905), (11, Value.int IntKind.i64 49316), (12, Value.int IntKind.i64 21502), (13, Value.int IntKind.i64 52590), (14, Value.int IntKind.i64 14035), (15, Value.int IntKind.i64 8553)]).run Try.prog w = .ok (.agg (arrK .i64 16 (dgt bX))) w := run_build w _ _ _ (by kernel_rfl)
theorem build_rY (w : World) : (Instr.build 26 #[(0, Value.int IntKind.i64 26200), (1, Value.int IntKind.i64 26214), (2, Value.int IntKind.i64 26214), (3, Value.int IntKind.i64 26214), (4, Value.int IntKind.i64 26214), (5, Value.int IntKind.i64 26214), (6, Value.int IntKind.i64 26214), (7, Value.int IntKind.i64 26214), (8, Value.int IntKind.i64 26214), (9, Value.int IntKind.i64 26214), (10, Value.int IntKind.i64 26214), (11, Value.int IntKind.i64 26214), (12, Value.int IntKind.i64 26214), (13, Value.int IntKind.i64 26214), (14, Value.int IntKind.i64 26214), (15, Value.int IntKind.i64 26214)]).run Try.prog w = .ok (.agg (arrK .i64 16 (dgt bY))) w := run_build w _ _ _ (by kernel_rfl)
theorem ref_PtBase (w : World) : Calls Try.prog 39 #[] w fun e w' => e = .returned (rpV bX bY 1) ∧ Below w.heap.size w w' := by
  unfold rpV
  have hb1 := Lib.hid (fun V => build_rX V)
  have hb2 := Lib.hid (fun V => build_rY V)
  have h1 := Lib.hid (fun V => ref_small 1 V (by omega))
  unfold feV at h1
  rw [show ((1 : Nat) : Int) = 1 from rfl] at h1
  obtain ⟨F, hF⟩ : ∃ X, dgt bX = X := ⟨_, rfl⟩
  obtain ⟨G, hG⟩ : ∃ X, dgt bY = X := ⟨_, rfl⟩
  rw [hF] at hb1 ⊢
  rw [hG] at hb2 ⊢
  clear hF hG
  have hcz := arrK_cells .i64 48 (cat3 (fun _ => 0) (fun _ => 0) (fun _ => 0))
  have hcp := arrK_cells .i64 48 (cat3 F G (dgt 1))
  have hL := Lib.hid (below_alloc w (Obj.cells (arrK .i64 48 (cat3 (fun _ => 0) (fun _ => 0) (fun _ => 0))) 48))
  have hR := Lib.hid (show Row (w.alloc (Obj.cells (arrK .i64 48 (cat3 (fun _ => 0) (fun _ => 0) (fun _ => 0))) 48)) w.heap.size 48 from (row_new rfl).2 hcz.1)
  go_enter Try.func39, Try.ntmps39
  go_upto_region 1 with (fail)
  generalize w.alloc _ = W0 at *
  go_wp2_with (first | (refine wpList_bldN (vs := #[(0, Value.int IntKind.i64 54554), (1, Value.int IntKind.i64 36645), (2, Value.int IntKind.i64 11616), (3, Value.int IntKind.i64 51542), (4, Value.int IntKind.i64 42930), (5, Value.int IntKind.i64 38181), (6, Value.int IntKind.i64 51040), (7, Value.int IntKind.i64 26924), (8, Value.int IntKind.i64 56412), (9, Value.int IntKind.i64 64982), (10, Value.int IntKind.i64 57905), (11, Value.int IntKind.i64 49316), (12, Value.int IntKind.i64 21502), (13, Value.int IntKind.i64 52590), (14, Value.int IntKind.i64 14035), (15, Value.int IntKind.i64 8553)]) rfl rfl ?_ (hb1.out _) ?_; focus (simp [Act.eval]; done)) | (refine wpList_bldN (vs := #[(0, Value.int IntKind.i64 26200), (1, Value.int IntKind.i64 26214), (2, Value.int IntKind.i64 26214), (3, Value.int IntKind.i64 26214), (4, Value.int IntKind.i64 26214), (5, Value.int IntKind.i64 26214), (6, Value.int IntKind.i64 26214), (7, Value.int IntKind.i64 26214), (8, Value.int IntKind.i64 26214), (9, Value.int IntKind.i64 26214), (10, Value.int IntKind.i64 26214), (11, Value.int IntKind.i64 26214), (12, Value.int IntKind.i64 26214), (13, Value.int IntKind.i64 26214), (14, Value.int IntKind.i64 26214), (15, Value.int IntKind.i64 26214)]) rfl rfl ?_ (hb2.out _) ?_; focus (simp [Act.eval]; done)))
  refine (h1.out _).mono ?_
  rintro e w2 ⟨rfl, hb⟩
  have hR2 := row_below hR.out hb hR.out.lt
  have hL2 := Lib.hid (below_step hb hL.out (Nat.le_refl _))
  clear hb hR hL
  dsimp only
  go_wp2_with (refine wpList_bldC (v0 := .agg (arrK .i64 16 F)) (v1 := .agg (arrK .i64 16 G)) (v2 := .agg (arrK .i64 16 (dgt 1))) rfl rfl (by go_simp) (by go_simp) (by go_simp) (build_rp _ _ _ _) ?_)
  exact ret_stored (p := 0) (ty := 48) (g := w.heap.size) (n := 48) (c := arrK .i64 48 (cat3 F G (dgt 1))) rfl Try.underlying48 rfl (by kernel_rfl) rfl hR2 hcp.1 rfl ⟨rfl, below_setRow hL2.out (Nat.le_refl _)⟩
theorem rp_Point (x y z : Nat) (w : World) (hx : x < 2 ^ 256) (hy : y < 2 ^ 256) (hz : z < 2 ^ 256) : Calls Try.prog 33 #[rpV x y z] w fun e w' => e = .returned (ptV (x * invP z % fP) (y * invP z % fP)) ∧ Below w.heap.size w w' := by
  have hi : invP z < 2 ^ 256 := Nat.lt_trans lt_P P_lt
  have hI := Lib.hid (fun V => fe_Over z V hz)
  obtain ⟨i, hi'⟩ : ∃ i, invP z = i := ⟨_, rfl⟩
  rw [hi'] at hI hi ⊢
  have hM1 := Lib.hid (fun V => fe_By x i V hx hi)
  have hM2 := Lib.hid (fun V => fe_By y i V hy hi)
  have hN1 := Lib.hid (fun V => fe_Num (x * i % fP) V low_lt)
  have hN2 := Lib.hid (fun V => fe_Num (y * i % fP) V low_lt)
  obtain ⟨a, ha⟩ : ∃ m, x * i % fP = m := ⟨_, rfl⟩
  obtain ⟨b, hb⟩ : ∃ m, y * i % fP = m := ⟨_, rfl⟩
  rw [ha] at hM1 hN1 ⊢
  rw [hb] at hM2 hN2 ⊢
  clear ha hb hx hy hz hi' hi
  unfold feV at hM1 hM2 hI hN1 hN2
  unfold numV at hN1 hN2
  unfold ptV rpV
  have hcq := arrK_cells .u64 8 (cat2 (wd a) (wd b))
  have hci := arrK_cells .i64 16 (dgt i)
  have hc0 := arrK_cells .i64 16 fun _ => 0
  have hcz := arrK_cells .u64 8 (cat2 (wd 0) (wd 0))
  have hL0 : Below w.heap.size w ((w.alloc (Obj.cells (arrK .i64 48 (cat3 (dgt x) (dgt y) (dgt z))) 48)).alloc (Obj.cells (arrK .u64 8 (cat2 (wd 0) (wd 0))) 42)) := by go_grown
  have hA0 : At ((w.alloc (Obj.cells (arrK .i64 48 (cat3 (dgt x) (dgt y) (dgt z))) 48)).alloc (Obj.cells (arrK .u64 8 (cat2 (wd 0) (wd 0))) 42)) w.heap.size .i64 48 (cat3 (dgt x) (dgt y) (dgt z)) := (At.new _ rfl).old _
  have hR0 : Row ((w.alloc (Obj.cells (arrK .i64 48 (cat3 (dgt x) (dgt y) (dgt z))) 48)).alloc (Obj.cells (arrK .u64 8 (cat2 (wd 0) (wd 0))) 42)) (w.heap.size + 1) 8 := (At.new (k := .u64) (f := cat2 (wd 0) (wd 0)) _ (by simp)).row
  have hL := Lib.hid hL0
  have hR := Lib.hid hR0
  have hA := Lib.hid hA0
  clear hL0 hR0 hA0
  go_enter Try.func33, Try.ntmps33
  go_upto_region 1 with (fail)
  generalize (w.alloc _).alloc _ = W0 at *
  have hl1 := (rp_2 hA.out).1
  have hl2 := (rp_2 hA.out).2
  go_upto_region 2 with (fail)
  refine (hI.out _).mono ?_
  rintro e w2 ⟨rfl, hb2⟩
  have hA2 := hA.out.step hb2
  have hR2 := row_below hR.out hb2 hR.out.lt
  have hL2 := below_step hb2 hL.out (Nat.le_refl _)
  have hlt : w.heap.size + 1 < w2.heap.size := hR2.lt
  clear hl1 hl2 hA hR hL hb2 hI
  have hA := Lib.hid (hA2.old (Obj.cells (arrK .i64 16 (dgt i)) 26))
  have hR := Lib.hid ((row_old (o := Obj.cells (arrK .i64 16 (dgt i)) 26) hR2.lt).2 hR2)
  have hL := Lib.hid (Below.trans hL2 ((below_alloc w2 (Obj.cells (arrK .i64 16 (dgt i)) 26)).mono hL2.size))
  have hX := Lib.hid (At.new (w := w2) (k := .i64) (m := 16) (f := dgt i) 26 rfl)
  clear hA2 hR2 hL2
  dsimp only
  go_upto_region 2 with (fail)
  obtain ⟨g, hg⟩ : ∃ g, w2.heap.size = g := ⟨_, rfl⟩
  rw [hg] at hX hlt ⊢
  clear hg
  generalize w2.alloc _ = W1 at *
  generalize ha0 : Act.mk _ _ = a0
  have e1 : a0.tmps[1]?.getD undef = .pointer (some ⟨w.heap.size, 0, none⟩) := by rw [← ha0]; rfl
  have e2 : a0.tmps[2]?.getD undef = .pointer (some ⟨w.heap.size + 1, 0, none⟩) := by rw [← ha0]; rfl
  have e3 : a0.tmps[3]?.getD undef = .pointer (some ⟨g, 0, none⟩) := by rw [← ha0]; rfl
  have hz0 : a0.tmps.size = 18 := by rw [← ha0]; rfl
  have hha0 := Lib.hid ha0
  clear ha0
  refine wp_region_one (fun jx_ => match jx_ with | 0 => some (.pointer (some ⟨w.heap.size, 0, none⟩)) | 1 => some (.agg (arrK .i64 16 (dgt x))) | 2 => some (.agg (arrK .i64 16 (dgt i))) | 3 => some (.agg (arrK .i64 16 (dgt a))) | 4 => some (.agg (arrK .u64 4 (wd a))) | 5 => some (.pointer (some ⟨w.heap.size, 16, none⟩)) | 6 => some (.agg (arrK .i64 16 (dgt y))) | 7 => some (.agg (arrK .i64 16 (dgt i))) | 8 => some (.agg (arrK .i64 16 (dgt b))) | 9 => some (.agg (arrK .u64 4 (wd b))) | 10 => some (.agg (arrK .u64 8 (cat2 (wd a) (wd b)))) | _ => none) 11 ((w.heap.size + 1)) 8 (arrK .u64 8 (cat2 (wd a) (wd b))) (by kernel_rfl) (by kernel_rfl) (by kernel_rfl) (slotsOk_of hz0 (by kernel_rfl)) (of_decide_eq_true (by kernel_rfl)) hR.out ⟨?_, ?_, ?_, ?_, ?_, ?_, ?_, ?_, ?_, ?_, ?_, ?_, trivial⟩ ?_
  · refine one_before (by decide) (by kernel_rfl) (calm_step rfl fun aa ω κ hb hu hc hK => ?_)
    have h1 : aa.tmps[1]?.getD undef = .pointer (some ⟨w.heap.size, 0, none⟩) := (hu 1 rfl).trans e1
    have hk := Lib.hid (fun w1 (h : Below ω.heap.size ω w1) => hK (.pointer (some ⟨w.heap.size, 0, none⟩)) w1 rfl h)
    clear hK hu hc
    go_simp
    exact hk.out _ (Below.refl _ _)
  · refine one_before (by decide) (by kernel_rfl) (calm_step rfl fun aa ω κ hb hu hc hK => ?_)
    have h7 : aa.tmps[7]?.getD undef = .pointer (some ⟨w.heap.size, 0, none⟩) := hc 0 7 rfl rfl
    have hk := Lib.hid (fun w1 (h : Below ω.heap.size ω w1) => hK (.agg (arrK .i64 16 (dgt x))) w1 rfl h)
    clear hK hu hc
    have hl := rp_0 (hA.out.step hb)
    have hl1 := hl.1
    have hl2 := hl.2
    go_simp
    exact hk.out _ (Below.refl _ _)
  · refine one_before (by decide) (by kernel_rfl) (calm_step rfl fun aa ω κ hb hu hc hK => ?_)
    have h3 : aa.tmps[3]?.getD undef = .pointer (some ⟨g, 0, none⟩) := (hu 3 rfl).trans e3
    have hk := Lib.hid (fun w1 (h : Below ω.heap.size ω w1) => hK (.agg (arrK .i64 16 (dgt i))) w1 rfl h)
    clear hK hu hc
    have hr1 := (hX.out.step hb).row
    have hr2 := (hX.out.step hb).eq
    go_simp
    exact hk.out _ (Below.refl _ _)
  · refine one_before (by decide) (by kernel_rfl) (calm_step rfl fun aa ω κ hb hu hc hK => ?_)
    have h8 : aa.tmps[8]?.getD undef = .agg (arrK .i64 16 (dgt x)) := hc 1 8 rfl rfl
    have h9 : aa.tmps[9]?.getD undef = .agg (arrK .i64 16 (dgt i)) := hc 2 9 rfl rfl
    have hk := Lib.hid (fun w1 (h : Below ω.heap.size ω w1) => hK (.agg (arrK .i64 16 (dgt a))) w1 rfl h)
    clear hK hu hc
    go_simp
    go_at_call 25
    refine (hM1.out _).mono ?_
    rintro e w1 ⟨rfl, hb1⟩
    exact hk.out _ hb1
  · refine one_before (by decide) (by kernel_rfl) (calm_step rfl fun aa ω κ hb hu hc hK => ?_)
    have h10 : aa.tmps[10]?.getD undef = .agg (arrK .i64 16 (dgt a)) := hc 3 10 rfl rfl
    have hk := Lib.hid (fun w1 (h : Below ω.heap.size ω w1) => hK (.agg (arrK .u64 4 (wd a))) w1 rfl h)
    clear hK hu hc
    go_simp
    go_at_call 19
    refine (hN1.out _).mono ?_
    rintro e w1 ⟨rfl, hb1⟩
    exact hk.out _ hb1
  · refine one_before (by decide) (by kernel_rfl) (calm_step rfl fun aa ω κ hb hu hc hK => ?_)
    have h1 : aa.tmps[1]?.getD undef = .pointer (some ⟨w.heap.size, 0, none⟩) := (hu 1 rfl).trans e1
    have hk := Lib.hid (fun w1 (h : Below ω.heap.size ω w1) => hK (.pointer (some ⟨w.heap.size, 16, none⟩)) w1 rfl h)
    clear hK hu hc
    go_simp
    exact hk.out _ (Below.refl _ _)
  · refine one_before (by decide) (by kernel_rfl) (calm_step rfl fun aa ω κ hb hu hc hK => ?_)
    have h12 : aa.tmps[12]?.getD undef = .pointer (some ⟨w.heap.size, 16, none⟩) := hc 5 12 rfl rfl
    have hk := Lib.hid (fun w1 (h : Below ω.heap.size ω w1) => hK (.agg (arrK .i64 16 (dgt y))) w1 rfl h)
    clear hK hu hc
    have hl := rp_1 (hA.out.step hb)
    have hl1 := hl.1
    have hl2 := hl.2
    go_simp
    exact hk.out _ (Below.refl _ _)
  · refine one_before (by decide) (by kernel_rfl) (calm_step rfl fun aa ω κ hb hu hc hK => ?_)
    have h3 : aa.tmps[3]?.getD undef = .pointer (some ⟨g, 0, none⟩) := (hu 3 rfl).trans e3
    have hk := Lib.hid (fun w1 (h : Below ω.heap.size ω w1) => hK (.agg (arrK .i64 16 (dgt i))) w1 rfl h)
    clear hK hu hc
    have hr1 := (hX.out.step hb).row
    have hr2 := (hX.out.step hb).eq
    go_simp
    exact hk.out _ (Below.refl _ _)
  · refine one_before (by decide) (by kernel_rfl) (calm_step rfl fun aa ω κ hb hu hc hK => ?_)
    have h13 : aa.tmps[13]?.getD undef = .agg (arrK .i64 16 (dgt y)) := hc 6 13 rfl rfl
    have h14 : aa.tmps[14]?.getD undef = .agg (arrK .i64 16 (dgt i)) := hc 7 14 rfl rfl
    have hk := Lib.hid (fun w1 (h : Below ω.heap.size ω w1) => hK (.agg (arrK .i64 16 (dgt b))) w1 rfl h)
    clear hK hu hc
    go_simp
    go_at_call 25
    refine (hM2.out _).mono ?_
    rintro e w1 ⟨rfl, hb1⟩
    exact hk.out _ hb1
  · refine one_before (by decide) (by kernel_rfl) (calm_step rfl fun aa ω κ hb hu hc hK => ?_)
    have h15 : aa.tmps[15]?.getD undef = .agg (arrK .i64 16 (dgt b)) := hc 8 15 rfl rfl
    have hk := Lib.hid (fun w1 (h : Below ω.heap.size ω w1) => hK (.agg (arrK .u64 4 (wd b))) w1 rfl h)
    clear hK hu hc
    go_simp
    go_at_call 19
    refine (hN2.out _).mono ?_
    rintro e w1 ⟨rfl, hb1⟩
    exact hk.out _ hb1
  · refine one_before (by decide) (by kernel_rfl) (calm_step rfl fun aa ω κ hb hu hc hK => ?_)
    have h11 : aa.tmps[11]?.getD undef = .agg (arrK .u64 4 (wd a)) := hc 4 11 rfl rfl
    have h16 : aa.tmps[16]?.getD undef = .agg (arrK .u64 4 (wd b)) := hc 9 16 rfl rfl
    have hk := Lib.hid (fun w1 (h : Below ω.heap.size ω w1) => hK (.agg (arrK .u64 8 (cat2 (wd a) (wd b)))) w1 rfl h)
    clear hK hu hc
    exact wp_bldB (v0 := .agg (arrK .u64 4 (wd a))) (v1 := .agg (arrK .u64 4 (wd b))) rfl (by go_simp) (by go_simp) (build_pt _ _ _) (hk.out _ (Below.refl _ _))
  · refine one_q (one_write rfl rfl fun aa ω κ hb hu hc hr hK => ?_)
    have h2 : aa.tmps[2]?.getD undef = .pointer (some ⟨w.heap.size + 1, 0, none⟩) := (hu 2 rfl).trans e2
    have h17 : aa.tmps[17]?.getD undef = .agg (arrK .u64 8 (cat2 (wd a) (wd b))) := hc 10 17 rfl rfl
    have hk := Lib.hid hK
    clear hK hu hc
    have hcc := hcq
    go_simp
    exact hk.out undef
  · intro a1 w1 hb1 hu1 hsz1 hdf1 hv1
    have ha0 := hha0.out
    subst ha0
    have he := act_patch (n := 18) [false, false, false, false, false, false, false, true, true, true, true, true, true, true, true, true, true, true] rfl (by kernel_rfl) hu1 hsz1 hdf1
    simp only [patch, cond_true, cond_false, Nat.reduceAdd] at he
    have hXz := (At.put (k := .u64) (f := (cat2 (wd a) (wd b))) hR.out).below hb1 (by simpa using hR.out.lt)
    have hLz := Lib.hid (Below.trans (below_setRow (c := arrK .u64 8 (cat2 (wd a) (wd b))) hL.out (by omega)) (hb1.mono (by simpa using hL.out.size)))
    clear hR hL hA hM1 hM2 hN1 hN2 hX
    clear hb1 hu1 hsz1 hdf1 hv1 hz0 hha0 e1 e2 e3
    rw [he]
    clear he
    generalize a1.tmps[7]?.getD undef = x7 at *
    generalize a1.tmps[8]?.getD undef = x8 at *
    generalize a1.tmps[9]?.getD undef = x9 at *
    generalize a1.tmps[10]?.getD undef = x10 at *
    generalize a1.tmps[11]?.getD undef = x11 at *
    generalize a1.tmps[12]?.getD undef = x12 at *
    generalize a1.tmps[13]?.getD undef = x13 at *
    generalize a1.tmps[14]?.getD undef = x14 at *
    generalize a1.tmps[15]?.getD undef = x15 at *
    generalize a1.tmps[16]?.getD undef = x16 at *
    generalize a1.tmps[17]?.getD undef = x17 at *
    go_wp2_with fail
    refine ret_row (p := 2) (ty := 42) (g := (w.heap.size + 1)) rfl Try.underlying42 rfl (by kernel_rfl) rfl hXz.row rfl ?_
    rw [hXz.eq]
    exact ⟨rfl, hLz.out⟩
end Go.Proofs.Ytodcjeaannfbnaa
