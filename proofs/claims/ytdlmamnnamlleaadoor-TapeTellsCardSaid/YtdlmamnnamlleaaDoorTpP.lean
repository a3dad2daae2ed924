/- Tapes in plain lists: an item's bytes, reading a tape, its text. -/
import Derived.Test.YtdlmamnnamlleaaDoorDerR
import Derived.Test.YtdlmamnnamlleaaDoorMac
namespace Go.Proofs.YtdlmamnnamlleaaDoor
open Go.ChangeShapes Go.WideShapes Go.ChangeAt Go.RowKit
/-- An item's bytes. -/
def tagB (t : UInt8) (l : List UInt8) : List UInt8 := itemHead ⟨t, none, 0, l⟩ ++ l
theorem enc_one (x : It) : enc [x] = tagB x.tag x.body := by simp [enc, tagB, itemHead]
theorem tagB_len {t : UInt8} {l : List UInt8} : l.length + 2 ≤ (tagB t l).length ∧ (tagB t l).length ≤ l.length + 4 := by
  unfold tagB itemHead
  rw [List.length_append]
  split
  · simp; omega
  · split
    · simp; omega
    · simp; omega
theorem tagB_same {t : UInt8} {l m : List UInt8} (hl : l.length = m.length) : tagB t l = tagB t m ↔ l = m := by
  have hh : itemHead ⟨t, none, 0, l⟩ = itemHead ⟨t, none, 0, m⟩ := by unfold itemHead; simp only [hl]
  unfold tagB
  rw [hh]
  exact List.append_right_inj _
theorem ofNat_toNat (b : UInt8) : UInt8.ofNat b.toNat = b := by simp
theorem lenD_enc {r : List UInt8} {n k : Nat} (h : lenD r = (n, k, 0)) (t : UInt8) (l : List UInt8) (hl : l.length = n) : itemHead ⟨t, none, 0, l⟩ = t :: r.take k := by
  subst hl
  cases r with
  | nil => simp [lenD] at h
  | cons b r =>
    by_cases h1 : b.toNat < 128
    · rw [lenD_1 _ _ h1] at h
      injection h with e1 e2
      injection e2 with e2 e3
      subst e2
      unfold itemHead
      simp only [← e1]
      rw [if_pos h1]
      simp
    · by_cases h2 : b.toNat = 128 ∨ 130 < b.toNat
      · rw [lenD_2 _ _ h1 h2] at h; simp at h
      · by_cases h3 : r.length + 1 < b.toNat - 127
        · rw [lenD_3 _ _ h1 h2 h3] at h; simp at h
        · by_cases h4 : b.toNat = 129
          · have hb : b = 129 := by rw [← UInt8.toNat_inj]; exact h4
            by_cases h5 : (r.getD 0 0).toNat < 128
            · rw [lenD_4 _ _ h4 h3 h5] at h; simp at h
            · rw [lenD_5 _ _ h4 h3 h5] at h
              injection h with e1 e2
              injection e2 with e2 e3
              subst e2
              cases r with
              | nil => exact absurd (by rw [h4]; decide) h3
              | cons c r =>
                have e4 : c.toNat = l.length := by simpa using e1
                have h6 := c.toNat_lt
                unfold itemHead
                simp only
                rw [if_neg (by simp at h5; omega), if_pos (by omega), ← e4, hb]
                simp
          · have h4' : b.toNat = 130 := by omega
            have hb : b = 130 := by rw [← UInt8.toNat_inj]; exact h4'
            by_cases h5 : (r.getD 0 0).toNat * 256 + (r.getD 1 0).toNat < 256
            · rw [lenD_6 _ _ h4' h3 h5] at h; simp at h
            · rw [lenD_7 _ _ h4' h3 h5] at h
              injection h with e1 e2
              injection e2 with e2 e3
              subst e2
              have hr2 : 2 ≤ r.length := by omega
              cases r with
              | nil => simp at hr2
              | cons c r =>
                cases r with
                | nil => simp at hr2
                | cons d r =>
                  have e4 : c.toNat * 256 + d.toNat = l.length := by simpa using e1
                  have h6 := c.toNat_lt
                  have h7 := d.toNat_lt
                  have h8 : ¬ c.toNat * 256 + d.toNat < 256 := by simpa using h5
                  have e5 : (c.toNat * 256 + d.toNat) / 256 = c.toNat := by omega
                  have e6 : UInt8.ofNat (c.toNat * 256 + d.toNat) = d := by
                    rw [← UInt8.toNat_inj, UInt8.toNat_ofNat']
                    omega
                  unfold itemHead
                  simp only
                  rw [if_neg (by omega), if_neg (by omega), ← e4, hb, e5, e6]
                  simp
/-- What is read at the front is that item's bytes. -/
theorem first_enc {b : List UInt8} {t : UInt8} {l : List UInt8} {n : Nat} (h : firstS b = ((t, l), n, 0)) (h0 : b ≠ []) : b.take n = tagB t l ∧ n ≤ b.length ∧ l.length ≤ 4096 ∧ n = (tagB t l).length := by
  cases b with
  | nil => exact absurd rfl h0
  | cons t' r =>
    obtain ⟨m, k, z, hL⟩ : ∃ m k z, lenD r = (m, k, z) := ⟨_, _, _, rfl⟩
    rw [firstS_of hL] at h
    by_cases hz : z = 0
    · subst hz
      rw [if_neg (by simp)] at h
      by_cases h1 : 4096 < m
      · rw [if_pos h1] at h
        injection h with e1 e2
        injection e2 with e2 e3
        cases e3
      · rw [if_neg h1] at h
        by_cases h2 : (r.drop k).length < m
        · rw [if_pos h2] at h
          injection h with e1 e2
          injection e2 with e2 e3
          cases e3
        · rw [if_neg h2] at h
          injection h with e1 e2
          injection e2 with e2 e3
          injection e1 with e4 e5
          subst e4 e5 e2
          have hl : ((r.drop k).take m).length = m := by rw [List.length_take]; omega
          have hk : k ≤ r.length := by
            have := (lenD_ok r (by rw [hL])).1
            rwa [hL] at this
          have hd : (r.drop k).length = r.length - k := List.length_drop
          have he : (t' :: r).take (1 + k + m) = tagB t' ((r.drop k).take m) := by
            unfold tagB
            rw [lenD_enc hL t' _ hl, show 1 + k + m = (k + m) + 1 by omega, List.take_succ_cons, List.cons_append, ← List.take_add]
          refine ⟨he, by simp; omega, by omega, ?_⟩
          rw [← he, List.length_take, List.length_cons]
          omega
    · rw [if_pos hz] at h
      injection h with e1 e2
      injection e2 with e2 e3
      exact absurd e3 hz
def z32 : List UInt8 := List.replicate 32 0
/-- Reading a tape from p on: the records, how far, what was wrong, the last mark. -/
def tapeL (K : Nat → W32) (key t : List UInt8) : Nat → Nat → List UInt8 → List (List UInt8) → List (List UInt8) × Nat × Int × List UInt8
  | 0, p, last, recs => (recs, p, 0, last)
  | f + 1, p, last, recs =>
    if t.length ≤ p then (recs, p, 0, last)
    else if (firstS (t.drop p)).2.2 ≠ 0 then (recs, p, (firstS (t.drop p)).2.2, last)
    else if (firstS (t.drop p)).1.1 ≠ 1 ∨ (firstS (t.drop p)).1.2.length < 32 then (recs, p, 4, last)
    else if (firstS (t.drop p)).1.2.take 32 ≠ markL K key (last ++ (firstS (t.drop p)).1.2.drop 32) then (recs, p, 5, last)
    else tapeL K key t f (p + (firstS (t.drop p)).2.1) (markL K key (last ++ (firstS (t.drop p)).1.2.drop 32)) (recs ++ [(firstS (t.drop p)).1.2.drop 32])
section
variable {K : Nat → W32} {key t : List UInt8} {f p : Nat} {last : List UInt8} {recs : List (List UInt8)} {tg : UInt8} {l : List UInt8} {n : Nat} {z : Int}
theorem tapeL_end (h : t.length ≤ p) : tapeL K key t f p last recs = (recs, p, 0, last) := by
  cases f with
  | zero => rfl
  | succ f => unfold tapeL; rw [if_pos h]
theorem tapeL_err (hf : t.length < f + p) (hp : ¬ t.length ≤ p) (h : firstS (t.drop p) = ((tg, l), n, z)) (hz : z ≠ 0) : tapeL K key t f p last recs = (recs, p, z, last) := by
  cases f with
  | zero => omega
  | succ f => unfold tapeL; rw [if_neg hp, h, if_pos hz]
theorem tapeL_form (hf : t.length < f + p) (hp : ¬ t.length ≤ p) (h : firstS (t.drop p) = ((tg, l), n, 0)) (hx : tg ≠ 1 ∨ l.length < 32) : tapeL K key t f p last recs = (recs, p, 4, last) := by
  cases f with
  | zero => omega
  | succ f => unfold tapeL; rw [if_neg hp, h, if_neg (by simp), if_pos hx]
theorem tapeL_sum (hf : t.length < f + p) (hp : ¬ t.length ≤ p) (h : firstS (t.drop p) = ((tg, l), n, 0)) (hx : ¬ (tg ≠ 1 ∨ l.length < 32)) (hm : l.take 32 ≠ markL K key (last ++ l.drop 32)) : tapeL K key t f p last recs = (recs, p, 5, last) := by
  cases f with
  | zero => omega
  | succ f => unfold tapeL; rw [if_neg hp, h, if_neg (by simp), if_neg hx, if_pos hm]
theorem tapeL_next (hf : t.length < f + p) (hp : ¬ t.length ≤ p) (h : firstS (t.drop p) = ((tg, l), n, 0)) (hx : ¬ (tg ≠ 1 ∨ l.length < 32)) (hm : l.take 32 = markL K key (last ++ l.drop 32)) :
    ∃ f', t.length < f' + (p + n) ∧ tapeL K key t f p last recs = tapeL K key t f' (p + n) (markL K key (last ++ l.drop 32)) (recs ++ [l.drop 32]) := by
  cases f with
  | zero => omega
  | succ f =>
    have hne : t.drop p ≠ [] := fun e => by have := congrArg List.length e; rw [List.length_drop] at this; simp at this; omega
    have h2 := first_enc h hne
    have h3 := (tagB_len (t := tg) (l := l)).1
    refine ⟨f, by omega, ?_⟩
    rw [tapeL, if_neg hp, h, if_neg (by simp), if_neg hx, if_neg (by simpa using hm)]
end
/-- The text of records, and the last mark. -/
def foldT (K : Nat → W32) (key : List UInt8) (recs : List (List UInt8)) : List UInt8 × List UInt8 :=
  recs.foldl (fun s r => (s.1 ++ tagB 1 (markL K key (s.2 ++ r) ++ r), markL K key (s.2 ++ r))) ([], z32)
theorem foldT_snoc (K : Nat → W32) (key : List UInt8) (recs : List (List UInt8)) (r : List UInt8) : foldT K key (recs ++ [r]) = ((foldT K key recs).1 ++ tagB 1 (markL K key ((foldT K key recs).2 ++ r) ++ r), markL K key ((foldT K key recs).2 ++ r)) := by
  unfold foldT; rw [List.foldl_append]; rfl
theorem foldT_last (K : Nat → W32) (key : List UInt8) (recs : List (List UInt8)) : (foldT K key recs).2.length = 32 := by
  rcases List.eq_nil_or_concat recs with rfl | ⟨l, r, rfl⟩
  · rfl
  · rw [List.concat_eq_append, foldT_snoc]; exact mark_len _ _ _
/-- What holds of records that were read up to p. -/
structure TpOk (K : Nat → W32) (key t : List UInt8) (p : Nat) (last : List UInt8) (recs : List (List UInt8)) : Prop where
  fold : foldT K key recs = (t.take p, last)
  le : p ≤ t.length
  cnt : recs.length * 34 ≤ p
  each : ∀ r ∈ recs, r.length ≤ 4064
theorem TpOk.next {K : Nat → W32} {key t : List UInt8} {p : Nat} {last : List UInt8} {recs : List (List UInt8)} {tg : UInt8} {l : List UInt8} {n : Nat} (O : TpOk K key t p last recs) (hp : ¬ t.length ≤ p) (h : firstS (t.drop p) = ((tg, l), n, 0)) (hx : ¬ (tg ≠ 1 ∨ l.length < 32))
    (hm : l.take 32 = markL K key (last ++ l.drop 32)) : TpOk K key t (p + n) (markL K key (last ++ l.drop 32)) (recs ++ [l.drop 32]) := by
  have hne : t.drop p ≠ [] := fun e => by have := congrArg List.length e; rw [List.length_drop] at this; simp at this; omega
  obtain ⟨h2, h4, h5, h6⟩ := first_enc h hne
  have h3 := (tagB_len (t := tg) (l := l)).1
  rw [List.length_drop] at h4
  have ht : tg = 1 := by
    by_cases e : tg = 1
    · exact e
    · exact absurd (.inl e) hx
  have hl : ¬ l.length < 32 := fun e => hx (.inr e)
  have hc := O.cnt
  have hle := O.le
  refine ⟨?_, by omega, by rw [List.length_append, List.length_singleton]; omega, fun r hr => ?_⟩
  · rw [foldT_snoc, O.fold]
    show (t.take p ++ tagB 1 (markL K key (last ++ l.drop 32) ++ l.drop 32), _) = _
    rw [← hm, List.take_append_drop, ← ht, ← h2, ← List.take_add]
  · rcases List.mem_append.1 hr with hr | hr
    · exact O.each r hr
    · have : r = l.drop 32 := by simpa using hr
      rw [this, List.length_drop]
      omega
theorem TpOk.start (K : Nat → W32) (key t : List UInt8) : TpOk K key t 0 z32 [] := ⟨rfl, Nat.zero_le _, Nat.zero_le _, fun r h => by simp at h⟩
end Go.Proofs.YtdlmamnnamlleaaDoor
