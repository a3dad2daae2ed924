/- The digest of a text, in plain Lean: a state that is written to is a fold over blocks of 64 bytes. No program is named here. -/
import Derived.Test.YtdlmamnnamlleaaDoorShaD
namespace Go.Proofs.YtdlmamnnamlleaaDoor
open Go

theorem schl_congr {b b' : Nat → W32} (h : ∀ i < 16, b i = b' i) : ∀ n, schl b n = schl b' n
  | 0 => by
      unfold schl
      exact List.map_congr_left fun i hi => h i (by simpa using hi)
  | n + 1 => by
      unfold schl
      rw [schl_congr h n]
theorem prs_congr {K h b b' : Nat → W32} (hb : ∀ i < 16, b i = b' i) : prs K h b = prs K h b' := by
  have e : sch b = sch b' := by
    funext t
    unfold sch
    rw [schl_congr hb]
  unfold prs
  rw [e]
theorem be32_congr {f g : Nat → Nat} {p : Nat} (h : ∀ i < 64, f i = g i) (hp : p + 3 < 64) : be32 f p = be32 g p := by
  unfold be32
  rw [h p (by omega), h (p + 1) (by omega), h (p + 2) (by omega), h (p + 3) (by omega)]
theorem press_congr {K h : Nat → W32} {f g : Nat → Nat} (hf : ∀ i < 64, f i = g i) : (prs K h fun i => be32 f (4 * i)) = prs K h fun i => be32 g (4 * i) :=
  prs_congr fun i hi => be32_congr hf (by omega)

def bytesF (l : List UInt8) : Nat → Nat := fun i => (l[i]?.getD 0).toNat
theorem bytesF_lt (l : List UInt8) (i : Nat) : bytesF l i < 256 := UInt8.toNat_lt _
theorem bytesF_at {l : List UInt8} {i : Nat} (h : i < l.length) : bytesF l i = l[i].toNat := by unfold bytesF; rw [List.getElem?_eq_getElem h]; rfl
def blk (K h : Nat → W32) (l : List UInt8) : Nat → W32 := prs K h fun i => be32 (bytesF l) (4 * i)
def blks (K : Nat → W32) : Nat → (Nat → W32) → List UInt8 → Nat → W32
  | 0, h, _ => h
  | n + 1, h, l => blks K n (blk K h (l.take 64)) (l.drop 64)
theorem blks_snoc (K : Nat → W32) : ∀ (n : Nat) (h : Nat → W32) (l : List UInt8), blks K (n + 1) h l = blk K (blks K n h l) ((l.drop (64 * n)).take 64)
  | 0, h, l => by simp [blks]
  | n + 1, h, l => by
      rw [blks, blks_snoc K n, List.drop_drop]
      show _ = blk K (blks K n (blk K h (l.take 64)) (l.drop 64)) _
      rw [show 64 + 64 * n = 64 * (n + 1) by omega]
/-- The digest's bytes. -/
def outF (h : Nat → W32) : Nat → Nat := fun i => w2n (h (i / 4)) / 2 ^ (24 - 8 * (i % 4)) % 256
def m64 (n : Nat) : Nat := n % 18446744073709551616
/-- The digest of l, from words that have n bytes. -/
def digW (K h : Nat → W32) (n : Nat) (l : List UInt8) : Nat → W32 := blks K ((l.length + (padL (m64 (n + l.length))).length) / 64) h (l ++ padL (m64 (n + l.length)))
def dig (K h : Nat → W32) (n : Nat) (l : List UInt8) : Nat → Nat := outF (digW K h n l)
theorem pad_whole {n k : Nat} (h : n % 64 = 0) : (k + (padL (m64 (n + k))).length) % 64 = 0 := by
  rw [padL_length]
  unfold padZ m64
  omega

section
variable {K : Nat → W32}
theorem nextM_m64 (n : Nat) : nextM (m64 n) = m64 (n + 1) := by unfold nextM m64; omega
def mix (l : List UInt8) (k : Nat) (f : Nat → Nat) : Nat → Nat := fun i => if i < k then bytesF l i else f i
theorem mix_upd {l : List UInt8} {k : Nat} {f : Nat → Nat} (h : k < l.length) : upd (mix l k f) k l[k].toNat = mix l (k + 1) f := by
  funext i
  unfold upd mix
  by_cases e : i = k
  · subst e; rw [if_pos rfl, if_pos (by omega), bytesF_at h]
  · rw [if_neg e]
    by_cases e2 : i < k
    · rw [if_pos e2, if_pos (by omega)]
    · rw [if_neg e2, if_neg (by omega)]
theorem write_part {s : St} {l : List UInt8} (hm : s.m % 64 = 0) (hs : s.m < 18446744073709551616) : ∀ k, k ≤ 63 → k ≤ l.length → s.write K (l.take k) = ⟨s.h, m64 (s.m + k), mix l k s.f⟩
  | 0, _, _ => by
      have e : m64 (s.m + 0) = s.m := by unfold m64; omega
      rw [e]
      rfl
  | k + 1, h1, h2 => by
      rw [St.write_take (by omega), write_part hm hs k (by omega) (by omega)]
      unfold St.put
      have e : m64 (s.m + k) % 64 = k := by unfold m64; omega
      simp only [nextM_m64]
      rw [if_neg (by unfold m64; omega), e, mix_upd (by omega)]
      rfl
theorem write_64 {s : St} {l : List UInt8} (hm : s.m % 64 = 0) (hs : s.m < 18446744073709551616) (hl : 64 ≤ l.length) : s.write K (l.take 64) = ⟨blk K s.h (l.take 64), m64 (s.m + 64), mix l 64 s.f⟩ := by
  rw [show (64 : Nat) = 63 + 1 from rfl, St.write_take (by omega), write_part hm hs 63 (by omega) (by omega)]
  unfold St.put
  have e : m64 (s.m + 63) % 64 = 63 := by unfold m64; omega
  simp only [nextM_m64]
  rw [if_pos (by unfold m64; omega), e, mix_upd (by omega)]
  have e2 : (prs K s.h fun i => be32 (mix l (63 + 1) s.f) (4 * i)) = blk K s.h (l.take (63 + 1)) := by
    unfold blk
    refine press_congr fun i hi => ?_
    unfold mix bytesF
    rw [if_pos (by omega), List.getElem?_take, if_pos (by omega)]
  rw [e2]
theorem write_app {s : St} (a b : List UInt8) : s.write K (a ++ b) = (s.write K a).write K b := by unfold St.write; rw [List.foldl_append]
theorem write_blks : ∀ (n : Nat) {s : St} {l : List UInt8}, s.m % 64 = 0 → s.m < 18446744073709551616 → l.length = 64 * n → (s.write K l).h = blks K n s.h l
  | 0, s, l, _, _, h => by
      have : l = [] := List.eq_nil_of_length_eq_zero (by omega)
      subst this
      rfl
  | n + 1, s, l, hm, hs, h => by
      have e : l = l.take 64 ++ l.drop 64 := (List.take_append_drop 64 l).symm
      conv => lhs; rw [e]
      rw [write_app, write_64 hm hs (by omega), write_blks n (by show m64 _ % 64 = 0; unfold m64; omega) (Nat.mod_lt _ (by omega)) (by rw [List.length_drop]; omega)]
      rfl
theorem put_m (s : St) (b : UInt8) : (s.put K b).m = nextM s.m := by unfold St.put; split <;> rfl
theorem write_m : ∀ (l : List UInt8) {s : St}, s.m < 18446744073709551616 → (s.write K l).m = m64 (s.m + l.length)
  | [], s, h => by
      show s.m = _
      unfold m64; simp; omega
  | b :: l, s, h => by
      show ((s.put K b).write K l).m = _
      rw [write_m l (by rw [put_m]; exact Nat.mod_lt _ (by omega)), put_m, List.length_cons]
      unfold nextM m64
      omega
/-- A state's digest. -/
theorem write_dig {s : St} {l : List UInt8} (hm : s.m % 64 = 0) (hs : s.m < 18446744073709551616) : ((s.write K l).write K (padL (s.write K l).m)).h = digW K s.h s.m l := by
  rw [write_m l hs, ← write_app]
  unfold digW
  have h1 := pad_whole (k := l.length) hm
  refine write_blks _ hm hs ?_
  rw [List.length_append]
  omega
end
end Go.Proofs.YtdlmamnnamlleaaDoor
