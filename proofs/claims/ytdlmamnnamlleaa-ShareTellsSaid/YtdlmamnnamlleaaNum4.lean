/- Contracts of the document's numbers, the fourth part: Minus, Order. -/
import Derived.Test.YtdlmamnnamlleaaNumN
import Derived.Deep.RegionLaw
import Derived.Deep.DeepCutAuto
namespace Go.Proofs.Ytdlmamnnamlleaa
open Go.ChangeShapes Go.WideShapes Go.ChangeAt Go.RowKit
set_option maxHeartbeats 1000000
set_option maxRecDepth 100000

/-- A number whose digits lie at block B or behind. -/
def IsNF (w : World) (B : Nat) (v : Value) (n : Nat) : Prop := ∃ A l c, v = .slice A l.length c ∧ Ds w A l c ∧ Dg l n ∧ ∀ ad, A = some ad → B ≤ ad.block
def RetNF (n : Nat) (w : World) (e : Ending) (w' : World) : Prop := ∃ v, e = .returned v ∧ IsNF w' w.heap.size v n ∧ Below w.heap.size w w'
theorem IsNF.toN {w : World} {B : Nat} {v : Value} {n : Nat} (h : IsNF w B v n) : IsN w v n := by
  obtain ⟨A, l, c, e, h1, h2, -⟩ := h
  exact ⟨A, l, c, e, h1, h2⟩
theorem IsNF.mono {w : World} {B B' : Nat} {v : Value} {n : Nat} (h : IsNF w B v n) (hB : B' ≤ B) : IsNF w B' v n := by
  obtain ⟨A, l, c, e, h1, h2, h3⟩ := h
  exact ⟨A, l, c, e, h1, h2, fun ad ha => Nat.le_trans hB (h3 ad ha)⟩
theorem IsNF.step {w w' : World} {B : Nat} {v : Value} {n : Nat} (hb : Below w.heap.size w w') (h : IsNF w B v n) : IsNF w' B v n := by
  obtain ⟨A, l, c, e, h1, h2, h3⟩ := h
  exact ⟨A, l, c, e, h1.below hb (Nat.le_refl _), h2, h3⟩
theorem IsNF.setCell {w : World} {B : Nat} {v : Value} {n : Nat} (h : IsNF w B v n) {a : Addr} (ha : a.block < B) (u : Value) : IsNF (w.setCell a u) B v n := by
  obtain ⟨A, l, c, e, h1, h2, h3⟩ := h
  refine ⟨A, l, c, e, ⟨fun j x hx => ?_, h1.sm, h1.le, h1.mx⟩, h2, h3⟩
  obtain ⟨ad, e1, hl, hc⟩ := h1.rd j x hx
  refine ⟨ad, e1, by simpa using hl, ?_⟩
  have hne : (ad.add j).block ≠ a.block := by rw [addr_block]; have := h3 ad e1; omega
  rw [← hc]
  exact World.cell?_of_block (w := w) (Below.heap_setCell w a u _ hne)
theorem isNF_trim {w0 W : World} {B : Nat} {e : TypeId} {A : Option Addr} {n c k : Nat} {l : List Nat} (h : Own w0 B e (.slice A n c) (digV l) W) (hs : Sm l) (hk : k ≤ l.length) (hg : Dg (l.take k) (val l)) : IsNF W B (.slice A k c) (val l) := by
  obtain ⟨hn, hD⟩ := ds_own h hs
  obtain ⟨A', l', c', e1, h1, h2⟩ := isN_trim hD hk hg
  refine ⟨A', l', c', e1, h1, h2, fun ad ha => ?_⟩
  injection e1 with e1
  subst e1
  exact (h.lt (g := ad.block) (by rw [ha]; rfl)).1

theorem minus_step {l k L : List Nat} {i bo x bo' : Nat} (hL : L.length = i) (hx : bo + x + k[i]?.getD 0 = l[i]?.getD 0 + 65536 * bo') (hv : val L + val (k.take i) = val (l.take i) + 65536 ^ i * bo) :
    val (L ++ [x]) + val (k.take (i + 1)) = val (l.take (i + 1)) + 65536 ^ (i + 1) * bo' := by
  rw [val_snoc, hL, val_take_succ', val_take_succ', Nat.pow_succ, Nat.mul_assoc]
  have h : 65536 ^ i * (bo + x + k[i]?.getD 0) = 65536 ^ i * (l[i]?.getD 0 + 65536 * bo') := by rw [hx]
  rw [Nat.mul_add, Nat.mul_add, Nat.mul_add] at h
  omega
theorem minus_end {l k L : List Nat} {bo : Nat} (hl : Sm l) (hk : Sm k) (hle : val k ≤ val l) (hv : val L + val (k.take l.length) = val l + 65536 ^ l.length * bo) (hL : val L < 65536 ^ l.length) : val L = val l - val k := by
  have h1 := val_lt hl
  have h2 := val_take hk l.length
  rw [Nat.mod_eq_of_lt (by omega)] at h2
  rw [h2] at hv
  rcases Nat.eq_zero_or_pos bo with rfl | h
  · omega
  · have : 65536 ^ l.length * 1 ≤ 65536 ^ l.length * bo := Nat.mul_le_mul_left _ h
    omega

theorem ref_Minus (A : Option Addr) (l : List Nat) (c : Nat) (B : Option Addr) (k : List Nat) (d : Nat) (w : World) (ha : Ds w A l c) (hb : Ds w B k d) (hl : l.length ≤ 1000000) (hle : val k ≤ val l) :
    Calls Try.prog 66 #[.slice A l.length c, .slice B k.length d] w (RetNF (val l - val k) w) := by
  go_enter Try.func66, Try.ntmps66
  go_wp2
  go_loopw [5, 6, 11] (fun v y i wr => ∃ (i' : Nat) (L : List Nat) (bo : Nat), i = .int .i64 i' ∧ y = .int .i64 bo ∧ bo ≤ 1 ∧ Own w w.heap.size 3 v (digV L) wr ∧ L.length ≤ i' ∧ i' ≤ L.length ∧ i' ≤ l.length ∧
    Hid (Sm L ∧ val L + val (k.take i') = val (l.take i') + 65536 ^ i' * bo)) (fun _ _ i _ => l.length - (intOf i).toNat)
  case atStart => exact ⟨0, [], 0, rfl, rfl, by omega, Own.start _ _, by simp, by simp, by omega, Sm.nil, by simp [val]⟩
  case round =>
    obtain ⟨i, L, bo, rfl, rfl, hbo, hO, hl1, hl2, him, hH⟩ := hrel
    rename_i u5
    have hDa := ha.below hO.bel (Nat.le_refl _)
    have hDb := hb.below hO.bel (Nat.le_refl _)
    by_cases hlt : i < l.length
    · have hdb := digZ_lt hb.sm (i : Int)
      obtain ⟨ad, rfl, hbl, hc⟩ := digV_at hDa.rd hlt
      have hla := ha.sm l[i] (List.getElem_mem _)
      have hdz := digZ_nat k i
      have hst := fun x bo' hx => minus_step (x := x) (bo' := bo') (l := l) (k := k) (by omega) hx hH.out.2
      rw [← hdz, List.getElem?_eq_getElem hlt] at hst
      have hHst := Lib.hid hst
      have hcon := Lib.hid (fun W (h : Ds W B k d) => ref_digit B k d (i : Int) W h)
      have hHD := Lib.hid hDb
      clear hst hdz hDb
      generalize digZ k i = y at *
      generalize l[i] = x at *
      have hw1 : IntKind.i64.wrap ((x : Int) - y) = (x : Int) - y := by rw [IntKind.wrap_i64]; omega
      obtain ⟨o, ho⟩ : ∃ o : Int, (x : Int) - y - bo = o := ⟨_, rfl⟩
      have hw2 : IntKind.i64.wrap ((x : Int) - y - bo) = o := by rw [IntKind.wrap_i64]; omega
      have ho1 : -65536 ≤ o := by omega
      have ho2 : o < 65536 := by omega
      have hlL : L.length < 1000000 := by omega
      have hOd := hO.drew
      obtain ⟨X, bo', hX, hX2, hXl, hcase⟩ : ∃ X bo' : Nat, (bo + X + y = x + 65536 * bo') ∧ bo' ≤ 1 ∧ X < 65536 ∧ ((o < 0 ∧ o + 65536 = X ∧ bo' = 1) ∨ (¬ o < 0 ∧ o = X ∧ bo' = 0)) := by
        by_cases h : o < 0
        · exact ⟨(o + 65536).toNat, 1, by omega, by omega, by omega, .inl ⟨h, by omega, rfl⟩⟩
        · exact ⟨o.toNat, 0, by omega, by omega, by omega, .inr ⟨h, by omega, rfl⟩⟩
      have hfin := Lib.hid (hHst.out X bo' hX)
      have hHo := Lib.hid ho
      clear ho hHst hX
      go_wp2
      go_upto_region 6 with (fail)
      go_cut [8] (fun v8 wx => v8 = .int .i64 o ∧ Own w w.heap.size 3 u5 (digV L) wx)
      case first =>
        have hHD := Lib.hid (hHD.out.below (Below.refl wr.heap.size wr).drew (Nat.le_refl _))
        go_region_law (first
          | (go_simp; go_at_call 109; (refine Calls.mono (hcon.out _ hHD.out) ?_); rintro e w' ⟨rfl, rfl⟩))
        all_goals go_wp2_with fail
        all_goals go_meet
        all_goals exact ⟨rfl, hOd⟩
      case rest =>
        clear hOd
        obtain ⟨rfl, hOd⟩ := hcut
        clear hw1 hw2 hc
        rcases hcase with ⟨h0, h1, rfl⟩ | ⟨h0, h1, rfl⟩
        · have hw3 : IntKind.i64.wrap (o + 65536) = (X : Int) := by rw [IntKind.wrap_i64]; omega
          go_wp2_with (at_builtin; refine wpList_own1 (o := ⟨some 31, _, _, _, _, _⟩) rfl (.tmp 28) (.tmp 30) 33 rfl SI rfl hOd (.int .i64 (X : Int)) rfl rfl (by rw [digV_len]; unfold maxLen; omega) (by rw [digV_len]; omega) ?_; intro v1 w1 hO1 hg1 hat1; clear hg1 hat1)
          go_roundw
          case rel => exact ⟨i + 1, L ++ [X], 1, by go_num, rfl, by omega, by rw [digV_snoc]; exact hO1, by simp; omega, by simp; omega, by omega, hH.out.1.append (Sm.one hXl), hfin.out⟩
          case measure => simp [intOf]; omega
        · subst h1
          clear h0 ho1 ho2
          go_wp2_with (at_builtin; refine wpList_own1 (o := ⟨some 31, _, _, _, _, _⟩) rfl (.tmp 28) (.tmp 30) 33 rfl SI rfl hOd (.int .i64 (X : Int)) rfl rfl (by rw [digV_len]; unfold maxLen; omega) (by rw [digV_len]; omega) ?_; intro v1 w1 hO1 hg1 hat1; clear hg1 hat1)
          go_roundw
          case rel => exact ⟨i + 1, L ++ [X], 0, by go_num, rfl, by omega, by rw [digV_snoc]; exact hO1, by simp; omega, by simp; omega, by omega, hH.out.1.append (Sm.one hXl), hfin.out⟩
          case measure => simp [intOf]; omega
    · obtain rfl : i = l.length := by omega
      obtain ⟨A', c', rfl, -, -⟩ := hO.form
      obtain ⟨hn, hD⟩ := ds_own hO hH.out.1
      have hbl := hO.bel
      rw [hn]
      rw [hn] at hO
      have hHO := Lib.hid hO
      have hll := Lib.hid (show L.length = l.length by omega)
      clear hO
      go_wp2_with (go_at_call 119; refine (ref_trim A' L c' _ hD).mono ?_; rintro e w' ⟨q, hq, rfl, hg, rfl⟩)
      go_ret
      have hv := hH.out.2
      rw [List.take_length] at hv
      have hLt := val_lt hH.out.1
      rw [hll.out] at hLt
      have hr := minus_end ha.sm hb.sm hle hv hLt
      exact ⟨_, rfl, hr ▸ isNF_trim hHO.out hH.out.1 hq hg, hbl⟩

theorem order_digit {a b i : Nat} (hlt : a / 65536 ^ (i + 1) = b / 65536 ^ (i + 1)) {x y : Nat} (hx : x = a / 65536 ^ i % 65536) (hy : y = b / 65536 ^ i % 65536) :
    (x < y → order a b = -1) ∧ (y < x → order a b = 1) ∧ (x = y → a / 65536 ^ i = b / 65536 ^ i) := by
  have h := order_step hlt
  rw [← hx, ← hy] at h
  exact ⟨fun e => if_pos (h.1 e), fun e => by unfold order; rw [if_neg (by have := h.2.1 e; omega), if_pos (h.2.1 e)], h.2.2⟩
theorem ref_Order (A : Option Addr) (l : List Nat) (c : Nat) (B : Option Addr) (k : List Nat) (d : Nat) (w : World) (ha : Ds w A l c) (hb : Ds w B k d) (hl : l.length ≤ 1000000) (hk : k.length ≤ 1000000) :
    Calls Try.prog 54 #[.slice A l.length c, .slice B k.length d] w fun e w' => e = .returned (.int .i64 (order (val l) (val k))) ∧ w = w' := by
  go_enter Try.func54, Try.ntmps54
  go_wp2
  all_goals
    go_loop [5] (fun i => ∃ s : Nat, i = .int .i64 ((s : Int) - 1) ∧ s ≤ 1000000 ∧ Hid (val l / 65536 ^ s = val k / 65536 ^ s)) (fun i => (intOf i + 1).toNat)
    case atStart =>
      have h1 := val_lt ha.sm
      have h2 := val_lt hb.sm
      first
      | exact ⟨k.length, rfl, hk, Lib.hid (by rw [Nat.div_eq_of_lt (Nat.lt_of_lt_of_le h1 (Nat.pow_le_pow_right (by omega) (by omega))), Nat.div_eq_of_lt h2])⟩
      | exact ⟨l.length, rfl, hl, Lib.hid (by rw [Nat.div_eq_of_lt h1, Nat.div_eq_of_lt (Nat.lt_of_lt_of_le h2 (Nat.pow_le_pow_right (by omega) (by omega)))])⟩
    case round =>
      obtain ⟨s, rfl, hs, hH⟩ := hrel
      rcases Nat.eq_zero_or_pos s with rfl | hs0
      · have e : val l = val k := by have := hH.out; simpa using this
        have hq := Lib.hid (show order (val l) (val k) = 0 by rw [e]; unfold order; rw [if_neg (by omega), if_neg (by omega)])
        clear e hH
        go_wp2
        go_ret
        exact ⟨by rw [hq.out]; rfl, rfl⟩
      · obtain ⟨i, rfl⟩ : ∃ i, s = i + 1 := ⟨s - 1, by omega⟩
        rw [show (((i + 1 : Nat) : Int) - 1) = (i : Int) by omega]
        have ho := order_digit hH.out (x := digZ l i) (y := digZ k i) (by rw [digZ_nat, Dv.at_ (Dv.mk' ha.sm)]) (by rw [digZ_nat, Dv.at_ (Dv.mk' hb.sm)])
        have hHo := Lib.hid ho
        have hc1 := Lib.hid (ref_digit A l c (i : Int) w ha)
        have hc2 := Lib.hid (ref_digit B k d (i : Int) w hb)
        clear ho hH
        generalize digZ l i = x at *
        generalize digZ k i = y at *
        rcases Nat.lt_trichotomy x y with h | h | h
        · have hq := Lib.hid (hHo.out.1 h)
          go_wp2_with (go_at_call 109; (first | with_reducible refine hc1.out.mono ?_ | with_reducible refine hc2.out.mono ?_); rintro e w' ⟨rfl, rfl⟩)
          go_ret
          exact ⟨by rw [hq.out]; rfl, rfl⟩
        · subst h
          have hq := Lib.hid (hHo.out.2.2 rfl)
          go_wp2_with (go_at_call 109; (first | with_reducible refine hc1.out.mono ?_ | with_reducible refine hc2.out.mono ?_); rintro e w' ⟨rfl, rfl⟩)
          go_round
          case rel => exact ⟨i, rfl, by omega, hq⟩
          case measure => simp [intOf]
        · have hq := Lib.hid (hHo.out.2.1 h)
          have hn : ¬ x < y := by omega
          go_wp2_with (go_at_call 109; (first | with_reducible refine hc1.out.mono ?_ | with_reducible refine hc2.out.mono ?_); rintro e w' ⟨rfl, rfl⟩)
          go_ret
          exact ⟨by rw [hq.out]; rfl, rfl⟩
/-- In numbers alone. -/
theorem minusN {u v : Value} {m n : Nat} (w : World) (hu : IsV w u m) (hv : IsV w v n) (hle : n ≤ m) : Calls Try.prog 66 #[u, v] w (RetNF (m - n) w) := by
  obtain ⟨A, l, c, rfl, hD, rfl, hl⟩ := hu
  obtain ⟨B, k, d, rfl, hE, rfl, hk⟩ := hv
  exact ref_Minus A l c B k d w hD hE hl hle
theorem orderN {u v : Value} {m n : Nat} (w : World) (hu : IsV w u m) (hv : IsV w v n) : Calls Try.prog 54 #[u, v] w fun e w' => e = .returned (.int .i64 (order m n)) ∧ w = w' := by
  obtain ⟨A, l, c, rfl, hD, rfl, hl⟩ := hu
  obtain ⟨B, k, d, rfl, hE, rfl, hk⟩ := hv
  exact ref_Order A l c B k d w hD hE hl hk
end Go.Proofs.Ytdlmamnnamlleaa
