/- What der.Read and der.First, and the document's ReadItems and FirstItem, come to: plain functions on bytes; and their contracts. -/
import Derived.Test.YtdlmamnnamlleaaDerW
import Derived.Deep.QuietTactic
import Derived.BigQuiet
namespace Go.Proofs.Ytdlmamnnamlleaa
open Go.ChangeShapes Go.WideShapes Go.ChangeAt Go.RowKit

attribute [local go_sem] kp_refl kp_alloc kp_setCell kp_drew kp_drewN row_new row_old rowAt_new rowAt_old

/-- The length at the front: how long, of how many bytes that is, what was wrong. -/
def lenD (b : List UInt8) : Nat × Nat × Int :=
  match b with
  | [] => (0, 0, 3)
  | k :: r =>
    if k.toNat < 128 then (k.toNat, 1, 0)
    else if k.toNat = 128 ∨ 130 < k.toNat then (0, 0, 4)
    else if r.length + 1 < k.toNat - 127 then (0, 0, 3)
    else if k.toNat = 129 then (if (r.getD 0 0).toNat < 128 then (0, 0, 4) else ((r.getD 0 0).toNat, 2, 0))
    else if (r.getD 0 0).toNat * 256 + (r.getD 1 0).toNat < 256 then (0, 0, 4)
    else ((r.getD 0 0).toNat * 256 + (r.getD 1 0).toNat, 3, 0)

theorem lenD_1 (k : UInt8) (r : List UInt8) (h : k.toNat < 128) : lenD (k :: r) = (k.toNat, 1, 0) := by simp [lenD, h]
theorem lenD_2 (k : UInt8) (r : List UInt8) (h : ¬ k.toNat < 128) (h2 : k.toNat = 128 ∨ 130 < k.toNat) : lenD (k :: r) = (0, 0, 4) := by simp only [lenD, h, h2, if_true, if_false]
theorem lenD_3 (k : UInt8) (r : List UInt8) (h : ¬ k.toNat < 128) (h2 : ¬ (k.toNat = 128 ∨ 130 < k.toNat)) (h3 : r.length + 1 < k.toNat - 127) : lenD (k :: r) = (0, 0, 3) := by
  simp only [lenD]
  rw [if_neg h, if_neg h2, if_pos h3]
theorem lenD_4 (k : UInt8) (r : List UInt8) (h4 : k.toNat = 129) (h3 : ¬ r.length + 1 < k.toNat - 127) (h5 : (r.getD 0 0).toNat < 128) : lenD (k :: r) = (0, 0, 4) := by
  simp only [lenD]
  rw [if_neg (by omega), if_neg (by omega), if_neg h3, if_pos h4, if_pos h5]
theorem lenD_5 (k : UInt8) (r : List UInt8) (h4 : k.toNat = 129) (h3 : ¬ r.length + 1 < k.toNat - 127) (h5 : ¬ (r.getD 0 0).toNat < 128) : lenD (k :: r) = ((r.getD 0 0).toNat, 2, 0) := by
  simp only [lenD]
  rw [if_neg (by omega), if_neg (by omega), if_neg h3, if_pos h4, if_neg h5]
theorem lenD_6 (k : UInt8) (r : List UInt8) (h4 : k.toNat = 130) (h3 : ¬ r.length + 1 < k.toNat - 127) (h5 : (r.getD 0 0).toNat * 256 + (r.getD 1 0).toNat < 256) : lenD (k :: r) = (0, 0, 4) := by
  simp only [lenD]
  rw [if_neg (by omega), if_neg (by omega), if_neg h3, if_neg (by omega), if_pos h5]
theorem lenD_7 (k : UInt8) (r : List UInt8) (h4 : k.toNat = 130) (h3 : ¬ r.length + 1 < k.toNat - 127) (h5 : ¬ (r.getD 0 0).toNat * 256 + (r.getD 1 0).toNat < 256) : lenD (k :: r) = ((r.getD 0 0).toNat * 256 + (r.getD 1 0).toNat, 3, 0) := by
  simp only [lenD]
  rw [if_neg (by omega), if_neg (by omega), if_neg h3, if_neg (by omega), if_neg h5]

def Len (w : World) (b : List UInt8) (e : Ending) (w' : World) : Prop :=
  e = .returned (.tuple #[.int .i64 ((lenD b).1 : Int), .int .i64 ((lenD b).2.1 : Int), .int .i64 (lenD b).2.2]) ∧ ∃ n, w' = w.drewN n

theorem len_eq {w w' : World} {b : List UInt8} {x y : Nat} {z : Int} {p q : Int} (h : lenD b = (x, y, z)) (hx : (x : Int) = p := by rfl) (hy : (y : Int) = q := by rfl) (hw : ∃ n, w' = w.drewN n := by exact ⟨0, rfl⟩) :
    Len w b (.returned (.tuple #[.int .i64 p, .int .i64 q, .int .i64 z])) w' := by
  subst hx; subst hy
  exact ⟨by rw [h], hw⟩

theorem ofInt_i64 (a : Nat) (ha : a < 9223372036854775808) : (BitVec.ofInt 64 (a : Int)).toNat = a := by
  rw [BitVec.ofInt_natCast, BitVec.toNat_ofNat]; exact Nat.mod_eq_of_lt (by omega)
theorem i64_or_natD (a b : Nat) (ha : a < 9223372036854775808) (hb : b < 9223372036854775808) : bits .or .i64 (a : Int) (b : Int) = ((a ||| b : Nat) : Int) := by
  have hx : a ||| b < 2 ^ 63 := Nat.or_lt_two_pow (by omega) (by omega)
  show IntKind.i64.wrap ((BitVec.ofInt 64 (a : Int) ||| BitVec.ofInt 64 (b : Int)).toNat : Int) = _
  rw [BitVec.toNat_or, ofInt_i64 a ha, ofInt_i64 b hb, IntKind.wrap_i64]
  omega
theorem i64_or_8 (a b : Nat) (ha : a < 256) (hb : b < 256) : bits .or .i64 ((a : Int) * 256) (b : Int) = (a : Int) * 256 + b := by
  have h1 : (a : Int) * 256 = ((a * 256 : Nat) : Int) := by omega
  rw [h1, i64_or_natD _ _ (by omega) (by omega)]
  have h2 : a * 256 ||| b = a * 256 + b := by
    have := Nat.shiftLeft_add_eq_or_of_lt (show b < 2 ^ 8 from hb) a
    rw [Nat.shiftLeft_eq] at this
    exact this.symm
  rw [h2]; omega

set_option maxRecDepth 100000 in
set_option maxHeartbeats 4000000 in
theorem der_length (A : Option Addr) (b : List UInt8) (c : Nat) (w : World) (h : Rd w w.heap.size A (bytesV b)) (hn : b.length ≤ maxLen) :
    Calls Try.prog 162 #[.slice A b.length c] w (Len w b) := by
  unfold maxLen at hn
  cases b with
  | nil =>
    go_enter Try.func162, Try.ntmps162
    go_wp2
    go_ret3
    exact ⟨rfl, 0, rfl⟩
  | cons k r =>
    obtain ⟨ad, rfl, -, c0'⟩ := h 0 (u8v k) rfl
    have c0 : w.cell? ad = some (u8v k) := c0'
    clear c0'
    have hk := k.toNat_lt
    simp only [List.length_cons] at hn ⊢
    have hk0 : (0 : Int) ≤ (k.toNat : Int) := by omega
    by_cases h1 : k.toNat < 128
    · have hp := lenD_1 k r h1
      go_enter Try.func162, Try.ntmps162
      go_wp2
      go_ret3
      exact len_eq hp
    · by_cases h2 : k.toNat = 128 ∨ 130 < k.toNat
      · have hp := lenD_2 k r h1 h2
        go_enter Try.func162, Try.ntmps162
        go_wp2
        all_goals go_ret3
        all_goals exact len_eq hp
      · have e1 : ((k.toNat : Int) == 128) = false := by rw [beq_eq_false_iff_ne]; omega
        have e2 : (k.toNat : Int) ≤ 130 := by omega
        have e3 : ¬ (130 : Int) < (k.toNat : Int) := by omega
        by_cases h3 : r.length + 1 < k.toNat - 127
        · have hp := lenD_3 k r h1 h2 h3
          have e4 : (r.length : Int) + 1 < (k.toNat : Int) - 127 := by omega
          go_enter Try.func162, Try.ntmps162
          go_wp2
          all_goals go_ret3
          all_goals first | exact len_eq hp | (exfalso; omega)
        · have e4 : ¬ (r.length : Int) + 1 < (k.toNat : Int) - 127 := by omega
          have hb0 := (r.getD 0 0).toNat_lt
          have hb1 := (r.getD 1 0).toNat_lt
          have c1 : w.cell? ⟨ad.block, ad.off + 1, none⟩ = some (u8v (r.getD 0 0)) := h.all (j := 1) (by simp [bytesV, List.getD]; cases r with
            | nil => simp at h3; omega
            | cons x y => simp)
          by_cases h4 : k.toNat = 129
          · have e5 : ((k.toNat : Int) == 129) = true := by rw [beq_iff_eq]; omega
            by_cases h5 : (r.getD 0 0).toNat < 128
            · have hp := lenD_4 k r h4 h3 h5
              have H4 := Lib.hid h4
              clear h4
              generalize r.getD 0 0 = b0 at *
              go_enter Try.func162, Try.ntmps162
              go_wp2
              all_goals go_ret3
              all_goals first | exact len_eq hp | (exfalso; omega)
            · have hp := lenD_5 k r h4 h3 h5
              have H4 := Lib.hid h4
              clear h4
              generalize r.getD 0 0 = b0 at *
              go_enter Try.func162, Try.ntmps162
              go_wp2
              all_goals go_ret3
              all_goals first | exact len_eq hp | (exfalso; omega)
          · have e5 : ((k.toNat : Int) == 129) = false := by rw [beq_eq_false_iff_ne]; omega
            have c2 : w.cell? ⟨ad.block, ad.off + 2, none⟩ = some (u8v (r.getD 1 0)) := h.all (j := 2) (by simp [bytesV, List.getD]; match r, h3 with
              | [], h3 => simp at h3; omega
              | [x], h3 => simp at h3; omega
              | x :: y :: z, _ => simp)
            have H8 := i64_or_8 _ _ hb0 hb1
            have h6 : k.toNat = 130 := by omega
            by_cases h5 : (r.getD 0 0).toNat * 256 + (r.getD 1 0).toNat < 256
            · have hp := lenD_6 k r h6 h3 h5
              have H6 := Lib.hid h6
              clear h6
              generalize r.getD 0 0 = b0 at *
              generalize r.getD 1 0 = b1 at *
              go_enter Try.func162, Try.ntmps162
              go_wp2
              go_quiet (fail)
              go_wp2
              all_goals go_ret3
              all_goals first | exact len_eq hp (hw := ⟨_, rfl⟩) | exact len_eq hp (by rw [H8]; omega) rfl ⟨_, rfl⟩ | (exfalso; omega)
            · have hp := lenD_7 k r h6 h3 h5
              have H6 := Lib.hid h6
              clear h6
              generalize r.getD 0 0 = b0 at *
              generalize r.getD 1 0 = b1 at *
              go_enter Try.func162, Try.ntmps162
              go_wp2
              go_quiet (fail)
              go_wp2
              all_goals go_ret3
              all_goals first | exact len_eq hp (hw := ⟨_, rfl⟩) | exact len_eq hp (by rw [H8]; omega) rfl ⟨_, rfl⟩ | (exfalso; omega)

theorem rd_setCell {w : World} {B : Nat} {A : Option Addr} {xs : List Value} {p : Addr} {v : Value} (h : Rd w B A xs) (hne : ∀ a, A = some a → a.block ≠ p.block) : Rd (w.setCell p v) B A xs := fun j u hu => by
  obtain ⟨ad, e, hl, hc⟩ := h j u hu
  exact ⟨ad, e, hl, (World.cell?_setCell_other w p (ad.add j) v (fun e1 => hne ad e (by rw [e1, addr_block]))).trans hc⟩
theorem own_new {A : Option Addr} {n c H : Nat} {w : World} (h : (Value.slice A n c).ownBlock = (Value.slice none 0 0).ownBlock ∨ (Value.slice A n c).ownBlock = some w.heap.size) (hH : w.heap.size = H) : ∀ a, A = some a → H ≤ a.block := by
  rintro a rfl
  rcases h with h | h
  · simp [Value.ownBlock] at h
  · simp [Value.ownBlock] at h; omega
theorem rd_take {w : World} {B : Nat} {A : Option Addr} {l : List UInt8} {n : Nat} (h : Rd w B A (bytesV l)) : Rd w B A (bytesV (l.take n)) := by
  have := h.take (k := n)
  rwa [show (bytesV l).take n = bytesV (l.take n) by simp [bytesV, List.map_take]] at this
theorem below_gr {B : Nat} {a w w' : World} {row : Option Nat} (hg : w.grownBy w' row) (h : Below B a w) (hB : B ≤ a.heap.size) (hr : ∀ k, row = some k → B ≤ k) : Below B a w' :=
  h.grown hg (Nat.le_trans hB h.size) hr
theorem below_dN {B : Nat} {a w : World} (h : Below B a w) (n : Nat) : Below B a (w.drewN n) := ⟨h.os, h.tape, h.output, h.size, h.block⟩

/-! ### First -/
def noneIt : UInt8 × List UInt8 := (0, [])
def firstS (b : List UInt8) : (UInt8 × List UInt8) × Nat × Int :=
  match b with
  | [] => (noneIt, 0, 3)
  | t :: r =>
    if (lenD r).2.2 ≠ 0 then (noneIt, 0, (lenD r).2.2)
    else if 4096 < (lenD r).1 then (noneIt, 0, 2)
    else if (r.drop (lenD r).2.1).length < (lenD r).1 then (noneIt, 0, 3)
    else ((t, (r.drop (lenD r).2.1).take (lenD r).1), 1 + (lenD r).2.1 + (lenD r).1, 0)

theorem lenD_ok (r : List UInt8) (h : (lenD r).2.2 = 0) : (lenD r).2.1 ≤ r.length ∧ (lenD r).1 < 65536 := by
  cases r with
  | nil => simp [lenD] at h
  | cons k r =>
    have hk := k.toNat_lt
    have h0 := (r.getD 0 0).toNat_lt
    have h1 := (r.getD 1 0).toNat_lt
    simp only [lenD] at h ⊢
    generalize r.getD 0 0 = x0 at *
    generalize r.getD 1 0 = x1 at *
    split
    · simp; omega
    · rename_i g1
      rw [if_neg g1] at h
      split
      · rename_i g2; rw [if_pos g2] at h; simp at h
      · rename_i g2
        rw [if_neg g2] at h
        split
        · rename_i g3; rw [if_pos g3] at h; simp at h
        · rename_i g3
          split
          · split <;> simp <;> omega
          · split <;> simp <;> omega

/-- What both firsts end with: an item in new memory, how many bytes, what was wrong. -/
def Fst (w : World) (b : List UInt8) (e : Ending) (w' : World) : Prop :=
  ∃ A c, e = .returned (.tuple #[.agg #[u8v (firstS b).1.1, .slice A (firstS b).1.2.length c], .int .i64 ((firstS b).2.1 : Int), .int .i64 (firstS b).2.2]) ∧
    Rd w' w'.heap.size A (bytesV (firstS b).1.2) ∧ (firstS b).1.2.length ≤ c ∧ c ≤ maxLen ∧ (∀ ad, A = some ad → w.heap.size ≤ ad.block ∧ ad.block < w'.heap.size) ∧ Below w.heap.size w w'

theorem fst_err {w w' : World} {b : List UInt8} {z p : Int} (h : firstS b = (noneIt, 0, z)) (hz : z = p) (hb : Below w.heap.size w w') :
    Fst w b (.returned (.tuple #[.agg #[.int .u8 0, .slice none 0 0], .int .i64 0, .int .i64 p])) w' := by
  subst hz
  refine ⟨none, 0, ?_, ?_, ?_, by simp [maxLen], by (intro ad h; cases h), hb⟩
  · rw [h]; rfl
  · rw [h]; exact Rd.nil
  · rw [h]; exact Nat.le_refl _

theorem fst_ok {w w1 w2 : World} {b : List UInt8} {t : UInt8} {l : List UInt8} {k n H : Nat} {p : Int} {A : Option Addr} {c n' base : Nat} {e : TypeId} (h : firstS b = ((t, l), k, 0)) (hl : (bytesV l).length = n * 1)
    (hown : w1.ownsRow base e 1 (.slice A n' c) n' ([] ++ bytesV l)) (hn : n' = n) (hfar : ∀ a, A = some a → H + 1 ≤ a.block) {v0 v1 : Value} (hw2 : w2 = (w1.setCell ⟨H, 0, none⟩ v0).setCell ⟨H, 1, none⟩ v1) (hb : Below w.heap.size w w2) (hp : p = k)
    (hH : w.heap.size ≤ H := by omega) : Fst w b (.returned (.tuple #[.agg #[u8v t, .slice A n c], .int .i64 p, .int .i64 0])) w2 := by
  subst hp; subst hw2; subst hn
  have hl2 : l.length = n' := by simp [bytesV] at hl; exact hl
  have hc : l.length ≤ c ∧ c ≤ maxLen := by
    rcases hown.2 with ⟨h1, h2⟩ | ⟨g, cap, cur, h1, _, _, h4, h5, _⟩
    · injection h1 with _ h1 h2; subst h2; rw [hl2, h1]; simp [maxLen]
    · injection h1 with _ _ h1; subst h1; rw [hl2]; exact ⟨h4, h5⟩
  refine ⟨A, c, by rw [h]; simp [hl2], ?_, by rw [h]; exact hc.1, hc.2, fun a ha => ⟨by have := hfar a ha; omega, by subst ha; have := (hown.lt a.block rfl).2; simpa using this⟩, hb⟩
  rw [h]
  have h0 := Rd.of_own hown
  rw [List.nil_append] at h0
  have hne : ∀ (o : Nat) a, A = some a → a.block ≠ (⟨H, o, none⟩ : Addr).block := fun o a ha => by have := hfar a ha; show a.block ≠ H; omega
  have := rd_setCell (v := v1) (rd_setCell (v := v0) h0 (hne 0)) (hne 1)
  simpa using this

set_option maxRecDepth 100000 in
set_option maxHeartbeats 4000000 in
theorem der_First (A : Option Addr) (b : List UInt8) (c : Nat) (w : World) (h : Rd w w.heap.size A (bytesV b)) (hn : b.length ≤ c) (hc : c ≤ maxLen) :
    Calls Try.prog 138 #[.slice A b.length c] w (Fst w b) := by
  unfold maxLen at hc
  cases b with
  | nil =>
    have hp : firstS [] = (noneIt, 0, 3) := rfl
    go_enter Try.func138, Try.ntmps138
    go_wp2
    go_returns
    exact fst_err hp rfl (by go_grown)
  | cons t r =>
    obtain ⟨ad, rfl, hbl, c0'⟩ := h 0 (u8v t) rfl
    have c0 : w.cell? ad = some (u8v t) := c0'
    clear c0'
    simp only [List.length_cons] at hn ⊢
    obtain ⟨A1, e1, r1⟩ := sl_from SB (some ad) (r.length + 1) c r.length 1 (by omega) (by omega) (by simp) hn
    have hr1 := fun W hW => r1 W w.heap.size (bytesV (t :: r)) (by simp [bytesV]) (h.kp (W := W) hW)
    have hlc := fun (W : World) hW hs => der_length A1 r (c - 1) W ((hr1 W hW).more hs) (by unfold maxLen; omega)
    have hfp : firstS (t :: r) = if (lenD r).2.2 ≠ 0 then (noneIt, 0, (lenD r).2.2)
      else if 4096 < (lenD r).1 then (noneIt, 0, 2)
      else if (r.drop (lenD r).2.1).length < (lenD r).1 then (noneIt, 0, 3)
      else ((t, (r.drop (lenD r).2.1).take (lenD r).1), 1 + (lenD r).2.1 + (lenD r).1, 0) := rfl
    have hlo := lenD_ok r
    unfold Len at hlc
    generalize lenD r = L at *
    obtain ⟨n1, k1, z1⟩ := L
    simp only at hlc hfp hlo
    clear hr1
    have HC := Lib.hid hlc
    clear hlc r1
    by_cases he : z1 = 0
    · obtain ⟨hk1, hn1⟩ := hlo he
      have hfp' := hfp
      rw [if_neg (by simpa using he)] at hfp'
      subst he
      clear hfp hlo
      obtain ⟨A2, e2, r2⟩ := sl_from SB (some ad) (r.length + 1) c (r.length - k1) (1 + (k1 : Int)) (by omega) (by omega) (by omega) hn
      have hr2 := fun W hW => r2 W w.heap.size (bytesV (t :: r)) (by simp [bytesV]) (h.kp (W := W) hW)
      clear r2
      have hd : (bytesV (t :: r)).drop ((1 + (k1 : Int)).toNat * 1) = bytesV (r.drop k1) := by
        rw [show (1 + (k1 : Int)).toNat * 1 = k1 + 1 by omega]
        simp [bytesV]
      rw [hd] at hr2
      have HR := Lib.hid hr2
      clear hr2 hd
      have hcc : (1 + (k1 : Int)).toNat = 1 + k1 := by omega
      by_cases g1 : 4096 < n1
      · have hp : Hid (firstS (t :: r) = (noneIt, 0, 2)) := by show _ = _; rw [hfp', if_pos g1]
        have g1' : (4096 : Int) < (n1 : Int) := by omega
        clear hfp'
        go_enter Try.func138, Try.ntmps138
        go_wp2_with fail
        refine (HC.out _ (by go_simp) (by simp)).mono ?_
        rintro e w1 ⟨rfl, nq, rfl⟩
        go_wp2
        go_returns
        exact fst_err hp.out rfl (by repeat' (first | (with_reducible exact Below.refl _ _) | (with_reducible refine below_dN ?_ _) | (with_reducible refine Below.alloc ?_ ?_ _) | (with_reducible refine Below.setCell ?_ ?_ _) | (with_reducible refine Below.drew ?_) | (simp; done) | (simp; omega)))
      · have g1' : ¬ (4096 : Int) < (n1 : Int) := by omega
        by_cases g2 : r.length - k1 < n1
        · have hp : Hid (firstS (t :: r) = (noneIt, 0, 3)) := by show _ = _; rw [hfp', if_neg g1, if_pos (by simpa using g2)]
          clear hfp'
          have g3 : ((r.length - k1 : Nat) : Int) < (n1 : Int) := by omega
          go_enter Try.func138, Try.ntmps138
          go_wp2_with fail
          refine (HC.out _ (by go_simp) (by simp)).mono ?_
          rintro e w1 ⟨rfl, nq, rfl⟩
          go_wp2
          go_returns
          exact fst_err hp.out rfl (by repeat' (first | (with_reducible exact Below.refl _ _) | (with_reducible refine below_dN ?_ _) | (with_reducible refine Below.alloc ?_ ?_ _) | (with_reducible refine Below.setCell ?_ ?_ _) | (with_reducible refine Below.drew ?_) | (simp; done) | (simp; omega)))
        · have hp : Hid (firstS (t :: r) = ((t, (r.drop k1).take n1), 1 + k1 + n1, 0)) := by show _ = _; rw [hfp', if_neg g1, if_neg (by simpa using g2)]
          clear hfp'
          have g3 : ¬ ((r.length - k1 : Nat) : Int) < (n1 : Int) := by omega
          have e3 := fun W => sl_to SB A2 (r.length - k1) (c - (1 + k1)) n1 (n1 : Int) (by omega) (by omega) (by omega) W
          go_enter Try.func138, Try.ntmps138
          go_wp2_with fail
          refine (HC.out _ (by go_simp) (by simp)).mono ?_
          rintro e w1 ⟨rfl, nq, rfl⟩
          go_wp2_with fail
          have hS : ∀ W, Below w.heap.size w W → W.cell? ad = some (u8v t) ∧ Below w.heap.size w W := fun W hb => ⟨(hb.cell (p := ad) (by omega)).trans c0, hb⟩
          have hS' := Lib.hid hS
          clear hS
          have hl1 : (bytesV ((r.drop k1).take n1)).length = n1 * 1 := by simp [bytesV]; omega
          have hl1' := Lib.hid hl1
          clear hl1
          have hx0 : (0 : Int) ≤ (n1 : Int) := by omega
          have hx1 : (n1 : Int) ≤ ((c - (1 + k1) : Nat) : Int) := by omega
          have hx2 : (0 : Int) ≤ (k1 : Int) := by omega
          have hx3 : (k1 : Int) ≤ 9223372036854775807 := by omega
          have hx4 : (n1 : Int) < 65536 := by omega
          have hx5 : (1 : Int) + k1 ≤ 9223372036854775807 := by omega
          have hx6 : IntKind.i64.wrap (1 + (k1 : Int)) = 1 + (k1 : Int) := IntWalk.i64_in _ (by omega)
          have hx7 : IntKind.i64.wrap (1 + (k1 : Int) + n1) = 1 + (k1 : Int) + n1 := IntWalk.i64_in _ (by omega)
          have hk0 : Kp w.heap.size w (w.alloc (.cells #[.int .u8 0, .slice none 0 0] 162)) := (kp_alloc (Nat.le_refl _)).2 (fun _ _ => rfl)
          have hz0 : w.heap.size ≤ (w.alloc (.cells #[.int .u8 0, .slice none 0 0] 162)).heap.size := by simp
          go_region_held3 (fun W => W.cell? ad = some (u8v t) ∧ Below w.heap.size w W)
            ((first | exact hS'.out _ (by repeat' (first | (with_reducible exact Below.refl _ _) | (with_reducible assumption) | (with_reducible refine below_dN ?_ _) | (with_reducible refine Below.alloc ?_ ?_ _) | (with_reducible refine Below.setCell ?_ ?_ _) | (with_reducible refine Below.drew ?_) | (simp; done) | (simp; omega))) | exact hS'.out _ hb1))
            ((refine step_app (by rfl) (.const (.slice none 0 0)) (.tmp 43) 59 (by rfl) SB (by rfl) (World.ownsRow_nil _ w.heap.size _ _) (by rfl) hl1'.out (rd_take (HR.out _ (by simpa only [kp_drew, kp_drewN] using hk0))) (bytesV_oneCell _) (by unfold maxLen; omega) (by omega) (by simp) ?_; intro v1 w1 hown1 hg1 hat1; have hbN := below_gr hg1 (B := w.heap.size + 1) (a := (w.alloc (.cells #[.int .u8 0, .slice none 0 0] 162))) (by repeat' (first | (with_reducible exact Below.refl _ _) | (with_reducible assumption) | (with_reducible refine below_dN ?_ _) | (with_reducible refine Below.alloc ?_ ?_ _) | (with_reducible refine Below.setCell ?_ ?_ _) | (with_reducible refine Below.drew ?_) | (simp; done) | (simp; omega))) (by simp) (by simp [Value.ownBlock]); have hb1 : Below w.heap.size w w1 := Below.trans (by repeat' (first | (with_reducible exact Below.refl _ _) | (with_reducible assumption) | (with_reducible refine below_dN ?_ _) | (with_reducible refine Below.alloc ?_ ?_ _) | (with_reducible refine Below.setCell ?_ ?_ _) | (with_reducible refine Below.drew ?_) | (simp; done) | (simp; omega))) (hbN.mono (by omega)); have y0 := (hbN.cell (p := ⟨w.heap.size, 0, none⟩) (by simp)).trans (by go_simp : (w.alloc (.cells #[.int .u8 0, .slice none 0 0] 162)).cell? ⟨w.heap.size, 0, none⟩ = some (.int .u8 0)); have y1 := (hbN.cell (p := ⟨w.heap.size, 1, none⟩) (by simp)).trans (by go_simp : (w.alloc (.cells #[.int .u8 0, .slice none 0 0] 162)).cell? ⟨w.heap.size, 1, none⟩ = some (.slice none 0 0)); have y2 := (hbN.frozen (p := ⟨w.heap.size, 0, none⟩) (by simp)).trans (by go_simp : (w.alloc (.cells #[.int .u8 0, .slice none 0 0] 162)).frozen? ⟨w.heap.size, 0, none⟩ = false); have y3 := (hbN.frozen (p := ⟨w.heap.size, 1, none⟩) (by simp)).trans (by go_simp : (w.alloc (.cells #[.int .u8 0, .slice none 0 0] 162)).frozen? ⟨w.heap.size, 1, none⟩ = false); obtain ⟨A3, c3, hv3⟩ := own_form hown1; subst hv3; have hfar : ∀ a, A3 = some a → w.heap.size + 1 ≤ a.block := own_new hat1 (by simp)))
          have hz1 := hbN.size
          simp only [World.size_alloc] at hz1
          clear hat1
          go_wp2
          have q0 : ((w1.setCell ⟨w.heap.size, 0, none⟩ (.int .u8 (t.toNat : Int))).setCell ⟨w.heap.size, 1, none⟩ (.slice A3 n1 c3)).cell? ⟨w.heap.size, 0, none⟩ = some (.int .u8 (t.toNat : Int)) := by
            rw [World.cell?_setCell_other _ _ _ _ (by simp)]
            exact World.cell?_setCell_same _ _ _ y0
          have q1 : ((w1.setCell ⟨w.heap.size, 0, none⟩ (.int .u8 (t.toNat : Int))).setCell ⟨w.heap.size, 1, none⟩ (.slice A3 n1 c3)).cell? ⟨w.heap.size, 1, none⟩ = some (.slice A3 n1 c3) :=
            World.cell?_setCell_same _ _ _ (u := .slice none 0 0) (by rw [World.cell?_setCell_other _ _ _ _ (by simp)]; exact y1)
          refine bodyPost_ret (v := .tuple #[.agg #[u8v t, .slice A3 n1 c3], .int .i64 (1 + (k1 : Int) + n1), .int .i64 0]) (by simp [results, Try.results138, go_sem, q0, q1]) rfl ?_
          exact fst_ok hp.out hl1'.out hown1 (by omega) hfar rfl (by repeat' (first | (with_reducible exact Below.refl _ _) | (with_reducible assumption) | (with_reducible refine below_dN ?_ _) | (with_reducible refine Below.alloc ?_ ?_ _) | (with_reducible refine Below.setCell ?_ ?_ _) | (with_reducible refine Below.drew ?_) | (simp; done) | (simp; omega))) (by omega)
    · have he1 : (z1 == 0) = false := by simpa using he
      have hfp1 : Hid (firstS (t :: r) = (noneIt, 0, z1)) := by show _ = _; rw [hfp, if_pos he]
      clear hfp he hlo
      go_enter Try.func138, Try.ntmps138
      go_wp2_with fail
      refine (HC.out _ (by go_simp) (by simp)).mono ?_
      rintro e w1 ⟨rfl, nq, rfl⟩
      go_wp2
      go_returns
      exact fst_err hfp1.out rfl (by repeat' (first | (with_reducible exact Below.refl _ _) | (with_reducible assumption) | (with_reducible refine below_dN ?_ _) | (with_reducible refine Below.alloc ?_ ?_ _) | (with_reducible refine Below.setCell ?_ ?_ _) | (with_reducible refine Below.drew ?_) | (simp; done) | (simp; omega)))

theorem fst_ok' {w w2 : World} {b : List UInt8} {t : UInt8} {l : List UInt8} {k n B : Nat} {p : Int} {A : Option Addr} {c : Nat} (h : firstS b = ((t, l), k, 0)) (hr : Rd w2 B A (bytesV l)) (hB : B ≤ w2.heap.size) (hn : l.length = n) (hc : n ≤ c ∧ c ≤ maxLen)
    (hfar : ∀ a, A = some a → w.heap.size ≤ a.block ∧ a.block < w2.heap.size) (hb : Below w.heap.size w w2) (hp : p = k) : Fst w b (.returned (.tuple #[.agg #[u8v t, .slice A n c], .int .i64 p, .int .i64 0])) w2 := by
  subst hp; subst hn
  exact ⟨A, c, by rw [h], by rw [h]; exact hr.more hB, by rw [h]; exact hc.1, hc.2, hfar, hb⟩
theorem cap_ok {W : World} {n e : Nat} (h : n ≤ maxLen) : n ≤ grownCap W n 0 e ∧ grownCap W n 0 e ≤ maxLen := ⟨grownCap_ge _ _ _ _, grownCap_le_maxLen _ _ _ _ h⟩

theorem bs_get (l : List UInt8) (i : Nat) (h : i < (⟨l.toArray⟩ : ByteArray).size) : (⟨l.toArray⟩ : ByteArray)[i]'h = l[i]'(by simpa [ByteArray.size] using h) := rfl
attribute [local go_sem] bs_get

theorem firstS_of {t : UInt8} {r : List UInt8} {n k : Nat} {z : Int} (h : lenD r = (n, k, z)) : firstS (t :: r) = if z ≠ 0 then (noneIt, 0, z)
      else if 4096 < n then (noneIt, 0, 2)
      else if (r.drop k).length < n then (noneIt, 0, 3)
      else ((t, (r.drop k).take n), 1 + k + n, 0) := by
  show (if (lenD r).2.2 ≠ 0 then _ else _) = _
  rw [h]

set_option maxRecDepth 100000 in
set_option maxHeartbeats 4000000 in
theorem ref_FirstItem (b : List UInt8) (w : World) (hn : b.length ≤ maxLen) :
    Calls Try.prog 139 #[.string ⟨b.toArray⟩] w (Fst w b) := by
  unfold maxLen at hn
  match b, hn with
  | [], _ =>
    have hp : firstS [] = (noneIt, 0, 3) := rfl
    go_enter Try.func139, Try.ntmps139
    go_wp2
    go_returns
    exact fst_err hp rfl (by go_grown)
  | [t], _ =>
    have hp : firstS [t] = (noneIt, 0, 3) := rfl
    go_enter Try.func139, Try.ntmps139
    go_wp2
    go_returns
    exact fst_err hp rfl (by go_grown)
  | t :: k :: r, hn =>
    simp only [List.length_cons] at hn
    have hk := k.toNat_lt
    have hk0 : (k.toNat : Int) < 256 := by omega
    by_cases h1 : k.toNat < 128
    · have hl := firstS_of (t := t) (lenD_1 k r h1)
      simp only [ne_eq, not_true_eq_false, if_false, List.drop_succ_cons, List.drop_zero] at hl
      rw [if_neg (by omega)] at hl
      have g1 : (k.toNat : Int) < 128 := by omega
      have g2 : ((k.toNat : Int) == 128) = false := by rw [beq_eq_false_iff_ne]; omega
      have g3 : ¬ (130 : Int) < (k.toNat : Int) := by omega
      have g4 : ¬ (128 : Int) < (k.toNat : Int) := by omega
      have g5 : ¬ (4096 : Int) < (k.toNat : Int) := by omega
      by_cases h2 : r.length < k.toNat
      · rw [if_pos h2] at hl
        have H := Lib.hid hl
        clear hl
        go_enter Try.func139, Try.ntmps139
        go_wp2
        go_returns
        exact fst_err H.out rfl (by go_grown)
      · rw [if_neg h2] at hl
        have H := Lib.hid hl
        clear hl
        have hw2 : IntKind.i64.wrap 2 = 2 := by decide
        have q1 := fun W => str_sl (P := Try.prog) Try.underlying9 (t :: k :: r) (r.take k.toNat) (2) (2 + (k.toNat : Int)) (by omega) (by omega) (by simp; omega) (by rw [show (2 + (k.toNat : Int)).toNat - (2 : Int).toNat = k.toNat by omega]; rfl) W
        have q2 := fun W => conv_sbn (P := Try.prog) Try.underlying9 Try.underlying59 Try.underlying5 (r.take k.toNat) (k.toNat) (by simp; omega) W
        go_enter Try.func139, Try.ntmps139
        go_wp2
        go_region
        go_wp2
        go_returns
        exact fst_ok' H.out (Rd.drew (Rd.drew (rd_cv2 (by simp)))) (by simp) (by simp; omega) (cap_ok (by unfold maxLen; omega)) (fun a ha => by injection ha with ha; subst ha; constructor <;> simp <;> omega) (by repeat' (first | (with_reducible exact Below.refl _ _) | (with_reducible assumption) | (with_reducible refine below_dN ?_ _) | (with_reducible refine Below.alloc ?_ ?_ _) | (with_reducible refine Below.setCell ?_ ?_ _) | (with_reducible refine Below.drew ?_) | (simp; done) | (simp; omega))) (by omega)
    · by_cases h2 : k.toNat = 128 ∨ 130 < k.toNat
      · have hl := firstS_of (t := t) (lenD_2 k r h1 h2)
        rw [if_pos (by decide)] at hl
        have H := Lib.hid hl
        clear hl
        go_enter Try.func139, Try.ntmps139
        go_wp2
        all_goals first | (go_returns; exact fst_err H.out rfl (by go_grown)) | (exfalso; omega)
      · have hk9 : k.toNat = 129 ∨ k.toNat = 130 := by omega
        rcases hk9 with h4 | h4
        · obtain rfl : k = 129 := UInt8.toNat_inj.1 h4
          clear hk hk0 h1 h2 h4
          have hw2 : IntKind.i64.wrap 3 = 3 := by decide
          match r, hn with
          | [], hn =>
            have hl : firstS [t, 129] = (noneIt, 0, 3) := rfl
            have H := Lib.hid hl
            clear hl
            go_enter Try.func139, Try.ntmps139
            go_wp2
            go_returns
            exact fst_err H.out rfl (by go_grown)
          | x :: r2, hn =>
            simp only [List.length_cons] at hn
            have hx := x.toNat_lt
            by_cases h5 : x.toNat < 128
            · have hl := firstS_of (t := t) (lenD_4 129 (x :: r2) rfl (by simp) (by simpa using h5))
              rw [if_pos (by decide)] at hl
              have H := Lib.hid hl
              clear hl
              go_enter Try.func139, Try.ntmps139
              go_wp2
              go_returns
              exact fst_err H.out rfl (by go_grown)
            · have hl := firstS_of (t := t) (lenD_5 129 (x :: r2) rfl (by simp) (by simpa using h5))
              simp only [ne_eq, not_true_eq_false, if_false, List.drop_succ_cons, List.drop_zero, List.getD_cons_zero] at hl
              rw [if_neg (by omega)] at hl
              have g5 : ¬ (4096 : Int) < (x.toNat : Int) := by omega
              by_cases h6 : r2.length < x.toNat
              · rw [if_pos h6] at hl
                have H := Lib.hid hl
                clear hl
                go_enter Try.func139, Try.ntmps139
                go_wp2
                go_returns
                exact fst_err H.out rfl (by go_grown)
              · rw [if_neg h6] at hl
                have H := Lib.hid hl
                clear hl
                have q1 := fun W => str_sl (P := Try.prog) Try.underlying9 (t :: 129 :: x :: r2) (r2.take x.toNat) (3) (3 + (x.toNat : Int)) (by omega) (by omega) (by simp; omega) (by rw [show (3 + (x.toNat : Int)).toNat - (3 : Int).toNat = x.toNat by omega]; rfl) W
                have q2 := fun W => conv_sbn (P := Try.prog) Try.underlying9 Try.underlying59 Try.underlying5 (r2.take x.toNat) (x.toNat) (by simp; omega) W
                go_enter Try.func139, Try.ntmps139
                go_wp2
                go_region
                go_wp2
                go_returns
                exact fst_ok' H.out (Rd.drew (Rd.drew (rd_cv2 (by simp)))) (by simp) (by simp; omega) (cap_ok (by unfold maxLen; omega)) (fun a ha => by injection ha with ha; subst ha; constructor <;> simp <;> omega) (by repeat' (first | (with_reducible exact Below.refl _ _) | (with_reducible assumption) | (with_reducible refine below_dN ?_ _) | (with_reducible refine Below.alloc ?_ ?_ _) | (with_reducible refine Below.setCell ?_ ?_ _) | (with_reducible refine Below.drew ?_) | (simp; done) | (simp; omega))) (by omega)
        · obtain rfl : k = 130 := UInt8.toNat_inj.1 h4
          clear hk hk0 h1 h2 h4
          have hw2 : IntKind.i64.wrap 4 = 4 := by decide
          match r, hn with
          | [], hn =>
            have hl : firstS [t, 130] = (noneIt, 0, 3) := rfl
            have H := Lib.hid hl
            clear hl
            go_enter Try.func139, Try.ntmps139
            go_wp2
            go_returns
            exact fst_err H.out rfl (by go_grown)
          | [x], hn =>
            have hl : firstS [t, 130, x] = (noneIt, 0, 3) := rfl
            have H := Lib.hid hl
            clear hl
            go_enter Try.func139, Try.ntmps139
            go_wp2
            go_returns
            exact fst_err H.out rfl (by go_grown)
          | x :: y :: r2, hn =>
            simp only [List.length_cons] at hn
            have hx := x.toNat_lt
            have hy := y.toNat_lt
            by_cases h5 : (x.toNat * 256 + y.toNat) < 256
            · have hl := firstS_of (t := t) (lenD_6 130 (x :: y :: r2) rfl (by simp) (by simpa using h5))
              rw [if_pos (by decide)] at hl
              have g5 : ((x.toNat : Int) * 256 + (y.toNat : Int)) < 256 := by omega
              have H := Lib.hid hl
              clear hl
              go_enter Try.func139, Try.ntmps139
              go_wp2
              go_returns
              exact fst_err H.out rfl (by go_grown)
            · have hl := firstS_of (t := t) (lenD_7 130 (x :: y :: r2) rfl (by simp) (by simpa using h5))
              simp only [ne_eq, not_true_eq_false, if_false, List.drop_succ_cons, List.drop_zero, List.getD_cons_zero, List.getD_cons_succ] at hl
              have g5 : ¬ ((x.toNat : Int) * 256 + (y.toNat : Int)) < 256 := by omega
              by_cases h7 : 4096 < (x.toNat * 256 + y.toNat)
              · rw [if_pos h7] at hl
                have g7 : (4096 : Int) < ((x.toNat : Int) * 256 + (y.toNat : Int)) := by omega
                have H := Lib.hid hl
                clear hl
                go_enter Try.func139, Try.ntmps139
                go_wp2
                go_returns
                exact fst_err H.out rfl (by go_grown)
              · rw [if_neg h7] at hl
                have g7 : ¬ (4096 : Int) < ((x.toNat : Int) * 256 + (y.toNat : Int)) := by omega
                by_cases h6 : r2.length < (x.toNat * 256 + y.toNat)
                · rw [if_pos h6] at hl
                  have H := Lib.hid hl
                  clear hl
                  go_enter Try.func139, Try.ntmps139
                  go_wp2
                  go_returns
                  exact fst_err H.out rfl (by go_grown)
                · rw [if_neg h6] at hl
                  have H := Lib.hid hl
                  clear hl
                  have q1 := fun W => str_sl (P := Try.prog) Try.underlying9 (t :: 130 :: x :: y :: r2) (r2.take (x.toNat * 256 + y.toNat)) (4) (4 + ((x.toNat : Int) * 256 + (y.toNat : Int))) (by omega) (by omega) (by simp; omega) (by rw [show (4 + ((x.toNat : Int) * 256 + (y.toNat : Int))).toNat - (4 : Int).toNat = (x.toNat * 256 + y.toNat) by omega]; rfl) W
                  have q2 := fun W => conv_sbn (P := Try.prog) Try.underlying9 Try.underlying59 Try.underlying5 (r2.take (x.toNat * 256 + y.toNat)) ((x.toNat * 256 + y.toNat)) (by simp; omega) W
                  go_enter Try.func139, Try.ntmps139
                  go_wp2
                  go_region
                  go_wp2
                  go_returns
                  exact fst_ok' H.out (Rd.drew (Rd.drew (rd_cv2 (by simp)))) (by simp) (by simp; omega) (cap_ok (by unfold maxLen; omega)) (fun a ha => by injection ha with ha; subst ha; constructor <;> simp <;> omega) (by repeat' (first | (with_reducible exact Below.refl _ _) | (with_reducible assumption) | (with_reducible refine below_dN ?_ _) | (with_reducible refine Below.alloc ?_ ?_ _) | (with_reducible refine Below.setCell ?_ ?_ _) | (with_reducible refine Below.drew ?_) | (simp; done) | (simp; omega))) (by omega)
end Go.Proofs.Ytdlmamnnamlleaa
