/- The curve modulo 2^255 - 19: its numbers are as the addition needs them; what the program and the document make of n times a point. -/
import Derived.Test.YtgdiokklfihfoaaDoorEd2
import Derived.Test.YtgdiokklfihfoaaDoorCvP
import Derived.Test.YtgdiokklfihfoaaDoorPrm
namespace Go.Proofs.YtgdiokklfihfoaaDoor
set_option maxHeartbeats 2000000
instance neP : NeZero fP := ⟨by have := fP_pos; omega⟩
section
variable {n : Nat} [NeZero n]
/-- A number modulo n. -/
def fi (n : Nat) [NeZero n] (a : Nat) : Fin n := ⟨a % n, Nat.mod_lt _ (Nat.pos_of_ne_zero (NeZero.ne n))⟩
theorem fi_val (a : Nat) : (fi n a).val = a % n := rfl
theorem fi_self (x : Fin n) : fi n x.val = x := Fin.ext (Nat.mod_eq_of_lt x.isLt)
theorem fi_mod (a : Nat) : fi n (a % n) = fi n a := Fin.ext (Nat.mod_mod _ _)
theorem fi_mul (a b : Nat) : fi n (a * b % n) = fi n a * fi n b := Fin.ext (by rw [Fin.val_mul, fi_val, fi_val, fi_val, Nat.mod_mod, Nat.mul_mod])
theorem fi_add (a b : Nat) : fi n ((a + b) % n) = fi n a + fi n b := Fin.ext (by rw [Fin.val_add, fi_val, fi_val, fi_val, Nat.mod_mod, Nat.add_mod])
theorem fi_sub (a b : Nat) : fi n ((a % n + (n - b % n)) % n) = fi n a - fi n b := Fin.ext (by rw [Fin.sub_def, fi_val, fi_val, fi_val, Nat.mod_mod, Nat.add_comm])
theorem fi_less (a b : Nat) (hb : b < n) : fi n ((a + 4 * n - b) % n) = fi n a - fi n b := by
  rw [← fi_sub]
  refine Fin.ext ?_
  rw [fi_val, fi_val, Nat.mod_eq_of_lt hb, Nat.mod_mod, Nat.mod_mod, Nat.mod_add_mod]
  rw [show a + 4 * n - b = a + (n - b) + n * 3 by omega, Nat.add_mul_mod_self_left]
theorem fi_zero : fi n 0 = 0 := Fin.ext (by rw [fi_val, Nat.zero_mod]; rfl)
theorem fi_one : fi n 1 = 1 := Fin.ext rfl
theorem fi_iff (a : Nat) : fi n a = 0 ↔ n ∣ a := by
  constructor
  · intro h
    have := congrArg Fin.val h
    rw [fi_val] at this
    exact Nat.dvd_of_mod_eq_zero (by rw [this]; rfl)
  · intro h
    exact Fin.ext (by rw [fi_val, Nat.mod_eq_zero_of_dvd h]; rfl)
end
/-- One over a number. -/
def ivP (t : Fin fP) : Fin fP := fi fP (invP t.val)
theorem ivP_fi (a : Nat) : ivP (fi fP a) = fi fP (invP a) := by
  unfold ivP invP
  rw [fi_val, pow_mod_P]
theorem d_half : dN ^ ((fP - 1) / 2) % fP = fP - 1 := by
  have h : (fP - 1) / 2 < 2 ^ 256 := Nat.lt_of_le_of_lt (Nat.le_trans (Nat.div_le_self _ _) (Nat.sub_le _ _)) P_lt
  rw [← pwf_is dN 256 _ h]
  decide +kernel
theorem half_P : 2 * ((fP - 1) / 2) = fP - 1 := by decide +kernel
theorem im_P : (19681161376707505956807079304988542015446066515923890162744021073123829784752 * 19681161376707505956807079304988542015446066515923890162744021073123829784752 + 1) % fP = 0 := by decide +kernel
/-- d is no square. -/
theorem d_sq {u v : Nat} (h : dN * u * u % fP = v * v % fP) : u % fP = 0 := by
  have hh := half_P
  have hd := d_half
  have hp := @pow_P
  have h2 := fP_pos
  generalize (fP - 1) / 2 = e at *
  generalize dN = d at *
  rcases Nat.eq_zero_or_pos (u % fP) with hu | hu
  · exact hu
  exfalso
  have hu1 := hp (u := u) (by omega)
  have h3 : (d * u * u) ^ e % fP = (v * v) ^ e % fP := by rw [Nat.pow_mod, h, ← Nat.pow_mod]
  have hs : ∀ x : Nat, (x * x) ^ e = x ^ (fP - 1) := fun x => by rw [← hh, Nat.pow_mul, Nat.pow_two]
  rw [Nat.mul_assoc, Nat.mul_pow, hs, hs, Nat.mul_mod, hd, hu1, Nat.mul_one] at h3
  generalize fP = P at *
  rw [Nat.mod_eq_of_lt (by omega)] at h3
  by_cases hv : v % P = 0
  · rw [Nat.pow_mod, hv, Nat.zero_pow (by omega), Nat.zero_mod] at h3
    omega
  · rw [hp hv] at h3
    omega
theorem edP : EdOk fP (fi fP dN) ivP where
  dom a b h := by
    have h1 := congrArg Fin.val h
    rw [Fin.val_mul] at h1
    have h2 : fP ∣ a.val * b.val := Nat.dvd_of_mod_eq_zero (by rw [h1]; rfl)
    rcases fP_pr.dvd h2 with h3 | h3
    · exact .inl (by rw [← fi_self a]; exact (fi_iff _).2 h3)
    · exact .inr (by rw [← fi_self b]; exact (fi_iff _).2 h3)
  inv a h := by
    have h1 : a.val % fP ≠ 0 := fun e => h (by rw [← fi_self a]; exact (fi_iff _).2 (Nat.dvd_of_mod_eq_zero e))
    have h2 := pow_P h1
    refine (congrArg (· * ivP a) (fi_self a).symm).trans ?_
    show fi fP a.val * fi fP (invP a.val) = 1
    rw [← fi_mul, fi_mod]
    unfold invP
    refine Fin.ext ?_
    rw [fi_val, Nat.mul_mod_mod, Nat.mul_comm, ← Nat.pow_succ]
    have h3 : (fP - 2).succ = fP - 1 := by have := fP_pos; omega
    rw [h3, h2]
    exact (Nat.mod_eq_of_lt (Nat.lt_trans (by omega) fP_pos)).symm
  im := by
    refine ⟨fi fP 19681161376707505956807079304988542015446066515923890162744021073123829784752, ?_⟩
    have h := im_P
    have h1 : fi fP ((19681161376707505956807079304988542015446066515923890162744021073123829784752 * 19681161376707505956807079304988542015446066515923890162744021073123829784752 + 1) % fP) = 0 := by rw [h, fi_zero]
    rw [fi_add, ← fi_mod (_ * _), fi_mul, fi_one] at h1
    generalize fi fP 19681161376707505956807079304988542015446066515923890162744021073123829784752 = i at *
    grind
  sq u v h := by
    have h1 := congrArg Fin.val h
    rw [Fin.val_mul, Fin.val_mul, Fin.val_mul, fi_val, Nat.mod_mul_mod, Nat.mul_assoc, Nat.mod_mul_mod, ← Nat.mul_assoc] at h1
    have h2 := d_sq h1
    rw [← fi_self u]
    exact (fi_iff _).2 (Nat.dvd_of_mod_eq_zero h2)
  two h := by
    have h1 := congrArg Fin.val h
    have h2 : ((2 : Fin fP)).val = 2 % fP := rfl
    rw [h2, Nat.mod_eq_of_lt (Nat.lt_trans (by omega) fP_pos)] at h1
    cases h1
  one h := by
    have h1 := congrArg Fin.val h
    have h2 : ((1 : Fin fP)).val = 1 % fP := rfl
    rw [h2, Nat.mod_eq_of_lt (Nat.lt_trans (by omega) fP_pos)] at h1
    cases h1
end Go.Proofs.YtgdiokklfihfoaaDoor
