/- The digest's words and rounds, in plain Lean. No program is named here. -/
import Derived.WalkKit
import Derived.Laws.BitsAllLaws
namespace Go.Proofs.YtdlmamnnamlleaaDoor
open Go

abbrev W32 := BitVec 32
def rotr (x : W32) (n : Nat) : W32 := x >>> n ||| x <<< (32 - n)
def sg0 (x : W32) : W32 := rotr x 7 ^^^ rotr x 18 ^^^ x >>> 3
def sg1 (x : W32) : W32 := rotr x 17 ^^^ rotr x 19 ^^^ x >>> 10
def sG1 (x : W32) : W32 := rotr x 6 ^^^ rotr x 11 ^^^ rotr x 25
def sG0 (x : W32) : W32 := rotr x 2 ^^^ rotr x 13 ^^^ rotr x 22
def chs (x y z : W32) : W32 := (x &&& y) ^^^ (~~~x &&& z)
def maj (x y z : W32) : W32 := (x &&& y) ^^^ (x &&& z) ^^^ (y &&& z)
theorem chs_eq (x y z : W32) : z ^^^ (x &&& (y ^^^ z)) = chs x y z := by
  unfold chs
  ext i
  simp
  cases x[i] <;> cases y[i] <;> cases z[i] <;> rfl
theorem maj_eq (x y z : W32) : (x &&& y) ||| (z &&& (x ||| y)) = maj x y z := by
  unfold maj
  ext i
  simp
  cases x[i] <;> cases y[i] <;> cases z[i] <;> rfl

/-- The words of a block, the first 16 + n. -/
def schl (b : Nat → W32) : Nat → List W32
  | 0 => (List.range 16).map b
  | n + 1 => schl b n ++ [(schl b n)[n]?.getD 0 + sg0 ((schl b n)[n + 1]?.getD 0) + (schl b n)[n + 9]?.getD 0 + sg1 ((schl b n)[n + 14]?.getD 0)]
theorem schl_len (b : Nat → W32) : ∀ n, (schl b n).length = 16 + n
  | 0 => by simp [schl]
  | n + 1 => by simp [schl, schl_len b n]; omega
theorem schl_pre (b : Nat → W32) (n : Nat) : ∀ m t, t < 16 + n → (schl b (n + m))[t]? = (schl b n)[t]?
  | 0, _, _ => rfl
  | m + 1, t, h => by
      show (schl b (n + m) ++ _)[t]? = _
      rw [List.getElem?_append_left (by rw [schl_len]; omega), schl_pre b n m t h]
def sch (b : Nat → W32) (t : Nat) : W32 := (schl b t)[t]?.getD 0
theorem sch_at (b : Nat → W32) {n t : Nat} (h : t < 16 + n) : (schl b n)[t]?.getD 0 = sch b t := by
  unfold sch
  rcases Nat.le_total n t with hle | hle
  · obtain ⟨m, rfl⟩ : ∃ m, t = n + m := ⟨t - n, by omega⟩
    rw [schl_pre b n m _ (by omega)]
  · obtain ⟨m, rfl⟩ : ∃ m, n = t + m := ⟨n - t, by omega⟩
    rw [schl_pre b t m _ (by omega)]
theorem sch_lo (b : Nat → W32) {t : Nat} (h : t < 16) : sch b t = b t := by
  rw [← sch_at b (n := 0) (by omega)]
  simp [schl, h]
theorem sch_hi (b : Nat → W32) {t : Nat} (h : 16 ≤ t) : sch b t = sch b (t - 16) + sg0 (sch b (t - 15)) + sch b (t - 7) + sg1 (sch b (t - 2)) := by
  obtain ⟨n, rfl⟩ : ∃ n, t = n + 16 := ⟨t - 16, by omega⟩
  rw [← sch_at b (n := n + 1) (by omega)]
  show (schl b n ++ _)[n + 16]?.getD 0 = _
  rw [List.getElem?_append_right (by rw [schl_len]; omega), schl_len, show n + 16 - (16 + n) = 0 by omega]
  show (schl b n)[n]?.getD 0 + sg0 ((schl b n)[n + 1]?.getD 0) + (schl b n)[n + 9]?.getD 0 + sg1 ((schl b n)[n + 14]?.getD 0) = _
  rw [sch_at b (by omega), sch_at b (by omega), sch_at b (by omega), sch_at b (by omega), show n + 16 - 16 = n by omega, show n + 16 - 15 = n + 1 by omega, show n + 16 - 7 = n + 9 by omega, show n + 16 - 2 = n + 14 by omega]

def one (k w : W32) (v : Nat → W32) : W32 := v 7 + sG1 (v 4) + chs (v 4) (v 5) (v 6) + k + w
def two (v : Nat → W32) : W32 := sG0 (v 0) + maj (v 0) (v 1) (v 2)
def rnd (k w : W32) (v : Nat → W32) : Nat → W32
  | 0 => one k w v + two v
  | 1 => v 0
  | 2 => v 1
  | 3 => v 2
  | 4 => v 3 + one k w v
  | 5 => v 4
  | 6 => v 5
  | _ => v 6
def rounds (K w v : Nat → W32) : Nat → Nat → W32
  | 0 => v
  | t + 1 => rnd (K t) (w t) (rounds K w v t)
def prs (K h b : Nat → W32) : Nat → W32 := fun i => h i + rounds K (sch b) h 64 i

/-! As the walk has them: the number of a word, under a name of its own (the walk's simp would take 'toNat' apart). -/
def w2n (x : W32) : Nat := x.toNat
theorem w2n_lt (x : W32) : w2n x < 4294967296 := x.isLt
theorem w2n_of {n : Nat} (h : n < 4294967296) : w2n (BitVec.ofNat 32 n) = n := by unfold w2n; rw [BitVec.toNat_ofNat]; exact Nat.mod_eq_of_lt h
theorem w2n_inj {x y : W32} (h : w2n x = w2n y) : x = y := BitVec.eq_of_toNat_eq h
section
variable (x y : W32)
theorem u32_xor' : bits .xor .u32 (w2n x : Int) (w2n y : Int) = (w2n (x ^^^ y) : Int) := by unfold w2n; rw [u32_xor_nat _ _ x.isLt y.isLt, BitVec.toNat_xor]
theorem u32_and' : bits .and .u32 (w2n x : Int) (w2n y : Int) = (w2n (x &&& y) : Int) := by unfold w2n; rw [u32_and_nat _ _ x.isLt y.isLt, BitVec.toNat_and]
theorem u32_or' : bits .or .u32 (w2n x : Int) (w2n y : Int) = (w2n (x ||| y) : Int) := by unfold w2n; rw [u32_or_nat _ _ x.isLt y.isLt, BitVec.toNat_or]
theorem u32_add' : ((w2n x : Int) + (w2n y : Int)) % (4294967296 : Int) = (w2n (x + y) : Int) := by unfold w2n; rw [BitVec.toNat_add]; simp
theorem u32_addw' : IntKind.u32.wrap ((w2n x : Int) + (w2n y : Int)) = (w2n (x + y) : Int) := by rw [IntKind.wrap_u32]; exact u32_add' x y
theorem u32_shr' (n : Nat) : (w2n x : Int) / (2 : Int) ^ n = (w2n (x >>> n) : Int) := by unfold w2n; rw [BitVec.toNat_ushiftRight, Nat.shiftRight_eq_div_pow]; simp
theorem u32_shr3 : (w2n x : Int) / (8 : Int) = (w2n (x >>> 3) : Int) := u32_shr' x 3
theorem u32_shr10 : (w2n x : Int) / (1024 : Int) = (w2n (x >>> 10) : Int) := u32_shr' x 10
theorem u32_shl' (n : Nat) : (w2n x : Int) * (2 : Int) ^ n % (4294967296 : Int) = (w2n (x <<< n) : Int) := by unfold w2n; rw [BitVec.toNat_shiftLeft, Nat.shiftLeft_eq]; simp
theorem u32_shlw' (n : Nat) : IntKind.u32.wrap ((w2n x : Int) * (2 : Int) ^ n) = (w2n (x <<< n) : Int) := by rw [IntKind.wrap_u32]; exact u32_shl' x n
theorem u32_not2 : bits .xor .u32 IntKind.u32.max (w2n x : Int) = (w2n (~~~x) : Int) := by
  unfold w2n
  rw [show IntKind.u32.max = (((BitVec.allOnes 32).toNat : Nat) : Int) from rfl, u32_xor_nat _ _ (by decide) x.isLt, ← BitVec.toNat_xor, BitVec.allOnes_xor]
theorem u32_not' : ((4294967295 : Int) - (w2n x : Int)) = (w2n (~~~x) : Int) := by unfold w2n; have := x.isLt; rw [BitVec.toNat_not]; omega
end
end Go.Proofs.YtdlmamnnamlleaaDoor
