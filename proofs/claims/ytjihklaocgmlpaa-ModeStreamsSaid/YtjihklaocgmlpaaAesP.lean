/- The plain law of the block cipher: the words of a key, and the rounds. No program is named here. -/
import Derived.Test.YtjihklaocgmlpaaGfU
import Derived.Test.YtjihklaocgmlpaaGfC
namespace Go.Proofs.Ytjihklaocgmlpaa
/-- Byte j of word i of a key of n words, when F holds the words before. -/
def kwNew (key : Nat → Nat) (n i : Nat) (F : Nat → Nat) (j : Nat) : Nat :=
  if i < n then key (4 * i + j) else
  F (4 * (i - n) + j) ^^^ (if i % n = 0 then gsub (F (4 * (i - 1) + (j + 1) % 4)) ^^^ (if j = 0 then gp 2 (i / n - 1) else 0)
    else if n = 8 ∧ i % 8 = 4 then gsub (F (4 * (i - 1) + j)) else F (4 * (i - 1) + j))
/-- The first words of a key, one behind the other; 0 behind them. -/
def kw (key : Nat → Nat) (n : Nat) : Nat → Nat → Nat
  | 0, _ => 0
  | k + 1, p => if p / 4 = k then kwNew key n k (kw key n k) (p % 4) else kw key n k p
theorem kw_out (key : Nat → Nat) (n : Nat) : ∀ k p, 4 * k ≤ p → kw key n k p = 0
  | 0, _, _ => rfl
  | k + 1, p, h => by
    show (if p / 4 = k then _ else _) = _
    rw [if_neg (by omega), kw_out key n k p (by omega)]
theorem kw_old (key : Nat → Nat) (n k p : Nat) (h : p < 4 * k) : kw key n (k + 1) p = kw key n k p := if_neg (by omega)
theorem kw_new (key : Nat → Nat) (n k j : Nat) (h : j < 4) : kw key n (k + 1) (4 * k + j) = kwNew key n k (kw key n k) j := by
  show (if (4 * k + j) / 4 = k then _ else _) = _
  rw [if_pos (by omega), show (4 * k + j) % 4 = j by omega]
theorem kw_up (key : Nat → Nat) (n : Nat) {p : Nat} : ∀ {m k}, k ≤ m → p < 4 * k → kw key n m p = kw key n k p
  | 0, k, h, hp => by omega
  | m + 1, k, h, hp => by
    rcases Nat.lt_or_ge m k with h1 | h1
    · rw [show k = m + 1 by omega]
    · rw [kw_old key n m p (by omega)]; exact kw_up key n h1 hp
theorem kwNew_lt {key : Nat → Nat} {n i : Nat} {F : Nat → Nat} {j : Nat} (hk : ∀ p, key p < 256) (hF : ∀ p, F p < 256) : kwNew key n i F j < 256 := by
  unfold kwNew
  split
  · exact hk _
  · refine xor_lt8 (hF _) ?_
    split
    · refine xor_lt8 (gsub_lt _) ?_
      split
      · exact gp_lt _ _
      · omega
    · split
      · exact gsub_lt _
      · exact hF _
theorem kw_lt {key : Nat → Nat} {n : Nat} (hk : ∀ p, key p < 256) : ∀ k p, kw key n k p < 256
  | 0, _ => by show 0 < 256; omega
  | k + 1, p => by
    show (if p / 4 = k then _ else _) < 256
    split
    · exact kwNew_lt hk (kw_lt hk k)
    · exact kw_lt hk k p
/-- While word i is being written: its first j bytes stand. -/
def kwJ (key : Nat → Nat) (n i j : Nat) : Nat → Nat := fun p => if p < 4 * i + j then kw key n (i + 1) p else 0
theorem kwJ_zero (key : Nat → Nat) (n i : Nat) : kwJ key n i 0 = kw key n i := by
  funext p
  unfold kwJ
  split
  · exact kw_old key n i p (by omega)
  · rw [kw_out key n i p (by omega)]
theorem kwJ_end (key : Nat → Nat) (n i : Nat) : kwJ key n i 4 = kw key n (i + 1) := by
  funext p
  unfold kwJ
  split
  · rfl
  · rw [kw_out key n (i + 1) p (by omega)]
theorem kwJ_step (key : Nat → Nat) (n i j : Nat) (hj : j < 4) : upd (kwJ key n i j) (4 * i + j) (kwNew key n i (kw key n i) j) = kwJ key n i (j + 1) := by
  funext p
  unfold kwJ upd
  by_cases h : p = 4 * i + j
  · subst h; rw [if_pos rfl, if_pos (by omega), kw_new key n i j hj]
  · rw [if_neg h]
    show (if p < 4 * i + j then kw key n (i + 1) p else 0) = _
    by_cases h2 : p < 4 * i + j
    · rw [if_pos h2, if_pos (by omega)]
    · rw [if_neg h2, if_neg (by omega)]
theorem kwJ_old (key : Nat → Nat) (n i j p : Nat) (hp : p < 4 * i) : kwJ key n i j p = kw key n i p := by
  unfold kwJ
  rw [if_pos (by omega), kw_old key n i p hp]

/-! The rounds: a state is sixteen bytes, column behind column. -/
def ark (F : Nat → Nat) (r : Nat) (s : Nat → Nat) : Nat → Nat := fun i => s i ^^^ F (16 * r + i)
def sbs (s : Nat → Nat) : Nat → Nat := fun i => gsub (s ((i + i % 4 * 4) % 16))
def usb (s : Nat → Nat) : Nat → Nat := fun p => gunsub (s ((p + 12 * (p % 4)) % 16))
def mixs (b : Nat → Nat) (s : Nat → Nat) : Nat → Nat := fun i => col (fun j => s (4 * (i / 4) + j)) b (i % 4)
def encS (F : Nat → Nat) (R : Nat) (b : Nat → Nat) : Nat → Nat → Nat
  | 0 => ark F 0 b
  | r + 1 => ark F (r + 1) (if r + 1 < R then mixs mixB (sbs (encS F R b r)) else sbs (encS F R b r))
/-- After c rounds of opening. -/
def decS (F : Nat → Nat) (R : Nat) (b : Nat → Nat) : Nat → Nat → Nat
  | 0 => b
  | c + 1 => usb (if R - c < R then mixs unmixB (ark F (R - c) (decS F R b c)) else ark F (R - c) (decS F R b c))
def encB (F : Nat → Nat) (R : Nat) (b : Nat → Nat) : Nat → Nat := encS F R b R
def decB (F : Nat → Nat) (R : Nat) (b : Nat → Nat) : Nat → Nat := ark F 0 (decS F R b R)

section
variable {F s b : Nat → Nat}
theorem ark_lt (hF : ∀ p, F p < 256) (r : Nat) (hs : ∀ i < 16, s i < 256) : ∀ i < 16, ark F r s i < 256 := fun i hi => xor_lt8 (hs i hi) (hF _)
theorem sbs_lt (s : Nat → Nat) (i : Nat) : sbs s i < 256 := gsub_lt _
theorem usb_lt (s : Nat → Nat) (i : Nat) : usb s i < 256 := gunsub_lt _
theorem mixs_lt {c : Nat → Nat} (hc : ∀ i < 4, c i < 256) (s : Nat → Nat) (i : Nat) : mixs c s i < 256 := colk_lt hc _ (Nat.le_refl _)
theorem encS_lt {R : Nat} (hF : ∀ p, F p < 256) (hb : ∀ i < 16, b i < 256) : ∀ r, ∀ i < 16, encS F R b r i < 256
  | 0 => ark_lt hF 0 hb
  | r + 1 => by
    refine ark_lt hF _ fun i _ => ?_
    split
    · exact mixs_lt mixB_lt _ _
    · exact sbs_lt _ _
theorem decS_lt {R : Nat} (hb : ∀ i < 16, b i < 256) : ∀ c, ∀ i < 16, decS F R b c i < 256
  | 0 => hb
  | _ + 1 => fun i _ => usb_lt _ i
end
/-- Rows of columns. -/
def tr (s : Nat → Nat) : Nat → Nat := fun p => s (4 * (p % 4) + p / 4)
theorem tr_tr (s : Nat → Nat) {i : Nat} (h : i < 16) : tr (tr s) i = s i := by
  unfold tr
  congr 1; omega
end Go.Proofs.Ytjihklaocgmlpaa
