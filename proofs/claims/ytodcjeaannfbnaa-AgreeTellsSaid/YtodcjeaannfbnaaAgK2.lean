/- Several texts one behind the other: Num4 Num5 Fe4 Fe5 RpB Rp1 CvP Rp2 Ld3 Prm LdP. -/
import Derived.Test.YtodcjeaannfbnaaNumN
import Derived.Deep.RegionLaw
import Derived.Deep.DeepCutAuto
import Derived.Laws.OwnMore
import Derived.Test.YtodcjeaannfbnaaAgK1
import Derived.Test.YtodcjeaannfbnaaTail
import Derived.Test.YtodcjeaannfbnaaBld
import Derived.Test.YtodcjeaannfbnaaOneW
import Derived.Test.YtodcjeaannfbnaaFdP
namespace Go.Proofs.Ytodcjeaannfbnaa
open Go.ChangeShapes Go.WideShapes Go.ChangeAt Go.RowKit
set_option maxHeartbeats 1000000
set_option maxRecDepth 100000

/-- A number whose digits lie at block B or behind. -/
def IsNF (w : World) (B : Nat) (v : Value) (n : Nat) : Prop := ∃ A l c, v = .slice A l.length c ∧ Ds w A l c ∧ Dg l n ∧ ∀ ad, A = some ad → B ≤ ad.block
def RetNF (n : Nat) (w : World) (e : Ending) (w' : World) : Prop := ∃ v, e = .returned v ∧ IsNF w' w.heap.size v n ∧ Below w.heap.size w w'
theorem IsNF.toN {w : World} {B : Nat} {v : Value} {n : Nat} (h : IsNF w B v n) : IsN w v n := by
  obtain ⟨A, l, c, e, h1, h2, -⟩ := h
  exact ⟨A, l, c, e, h1, h2⟩
theorem IsNF.mono {w : World} {B B' : Nat} {v : Value} {n : Nat} (h : IsNF w B v n) (hB : B' ≤ B) : IsNF w B' v n := by
  obtain ⟨A, l, c, e, h1, h2, h3⟩ := h
  exact ⟨A, l, c, e, h1, h2, fun ad ha => Nat.le_trans hB (h3 ad ha)⟩
theorem IsNF.step {w w' : World} {B : Nat} {v : Value} {n : Nat} (hb : Below w.heap.size w w') (h : IsNF w B v n) : IsNF w' B v n := by
  obtain ⟨A, l, c, e, h1, h2, h3⟩ := h
  exact ⟨A, l, c, e, h1.below hb (Nat.le_refl _), h2, h3⟩
theorem IsNF.setCell {w : World} {B : Nat} {v : Value} {n : Nat} (h : IsNF w B v n) {a : Addr} (ha : a.block < B) (u : Value) : IsNF (w.setCell a u) B v n := by
  obtain ⟨A, l, c, e, h1, h2, h3⟩ := h
  refine ⟨A, l, c, e, ⟨fun j x hx => ?_, h1.sm, h1.le, h1.mx⟩, h2, h3⟩
  obtain ⟨ad, e1, hl, hc⟩ := h1.rd j x hx
  refine ⟨ad, e1, by simpa using hl, ?_⟩
  have hne : (ad.add j).block ≠ a.block := by rw [addr_block]; have := h3 ad e1; omega
  rw [← hc]
  exact World.cell?_of_block (w := w) (Below.heap_setCell w a u _ hne)
theorem isNF_trim {w0 W : World} {B : Nat} {e : TypeId} {A : Option Addr} {n c k : Nat} {l : List Nat} (h : Own w0 B e (.slice A n c) (digV l) W) (hs : Sm l) (hk : k ≤ l.length) (hg : Dg (l.take k) (val l)) : IsNF W B (.slice A k c) (val l) := by
  obtain ⟨hn, hD⟩ := ds_own h hs
  obtain ⟨A', l', c', e1, h1, h2⟩ := isN_trim hD hk hg
  refine ⟨A', l', c', e1, h1, h2, fun ad ha => ?_⟩
  injection e1 with e1
  subst e1
  exact (h.lt (g := ad.block) (by rw [ha]; rfl)).1

theorem minus_step {l k L : List Nat} {i bo x bo' : Nat} (hL : L.length = i) (hx : bo + x + k[i]?.getD 0 = l[i]?.getD 0 + 65536 * bo') (hv : val L + val (k.take i) = val (l.take i) + 65536 ^ i * bo) :
    val (L ++ [x]) + val (k.take (i + 1)) = val (l.take (i + 1)) + 65536 ^ (i + 1) * bo' := by
  rw [val_snoc, hL, val_take_succ', val_take_succ', Nat.pow_succ, Nat.mul_assoc]
  have h : 65536 ^ i * (bo + x + k[i]?.getD 0) = 65536 ^ i * (l[i]?.getD 0 + 65536 * bo') := by rw [hx]
  rw [Nat.mul_add, Nat.mul_add, Nat.mul_add] at h
  omega
theorem minus_end {l k L : List Nat} {bo : Nat} (hl : Sm l) (hk : Sm k) (hle : val k ≤ val l) (hv : val L + val (k.take l.length) = val l + 65536 ^ l.length * bo) (hL : val L < 65536 ^ l.length) : val L = val l - val k := by
  have h1 := val_lt hl
  have h2 := val_take hk l.length
  rw [Nat.mod_eq_of_lt (by omega)] at h2
  rw [h2] at hv
  rcases Nat.eq_zero_or_pos bo with rfl | h
  · omega
  · have : 65536 ^ l.length * 1 ≤ 65536 ^ l.length * bo := Nat.mul_le_mul_left _ h
    omega

theorem ref_Minus (A : Option Addr) (l : List Nat) (c : Nat) (B : Option Addr) (k : List Nat) (d : Nat) (w : World) (ha : Ds w A l c) (hb : Ds w B k d) (hl : l.length ≤ 1000000) (hle : val k ≤ val l) :
    Calls Try.prog 71 #[.slice A l.length c, .slice B k.length d] w (RetNF (val l - val k) w) := by
  go_enter Try.func71, Try.ntmps71
  go_wp2
  go_loopw [5, 6, 11] (fun v y i wr => ∃ (i' : Nat) (L : List Nat) (bo : Nat), i = .int .i64 i' ∧ y = .int .i64 bo ∧ bo ≤ 1 ∧ Own w w.heap.size 3 v (digV L) wr ∧ L.length ≤ i' ∧ i' ≤ L.length ∧ i' ≤ l.length ∧
    Hid (Sm L ∧ val L + val (k.take i') = val (l.take i') + 65536 ^ i' * bo)) (fun _ _ i _ => l.length - (intOf i).toNat)
  case atStart => exact ⟨0, [], 0, rfl, rfl, by omega, Own.start _ _, by simp, by simp, by omega, Sm.nil, by simp [val]⟩
  case round =>
    obtain ⟨i, L, bo, rfl, rfl, hbo, hO, hl1, hl2, him, hH⟩ := hrel
    rename_i u5
    have hDa := ha.below hO.bel (Nat.le_refl _)
    have hDb := hb.below hO.bel (Nat.le_refl _)
    by_cases hlt : i < l.length
    · have hdb := digZ_lt hb.sm (i : Int)
      obtain ⟨ad, rfl, hbl, hc⟩ := digV_at hDa.rd hlt
      have hla := ha.sm l[i] (List.getElem_mem _)
      have hdz := digZ_nat k i
      have hst := fun x bo' hx => minus_step (x := x) (bo' := bo') (l := l) (k := k) (by omega) hx hH.out.2
      rw [← hdz, List.getElem?_eq_getElem hlt] at hst
      have hHst := Lib.hid hst
      have hcon := Lib.hid (fun W (h : Ds W B k d) => ref_digit B k d (i : Int) W h)
      have hHD := Lib.hid hDb
      clear hst hdz hDb
      generalize digZ k i = y at *
      generalize l[i] = x at *
      have hw1 : IntKind.i64.wrap ((x : Int) - y) = (x : Int) - y := by rw [IntKind.wrap_i64]; omega
      obtain ⟨o, ho⟩ : ∃ o : Int, (x : Int) - y - bo = o := ⟨_, rfl⟩
      have hw2 : IntKind.i64.wrap ((x : Int) - y - bo) = o := by rw [IntKind.wrap_i64]; omega
      have ho1 : -65536 ≤ o := by omega
      have ho2 : o < 65536 := by omega
      have hlL : L.length < 1000000 := by omega
      have hOd := hO.drew
      obtain ⟨X, bo', hX, hX2, hXl, hcase⟩ : ∃ X bo' : Nat, (bo + X + y = x + 65536 * bo') ∧ bo' ≤ 1 ∧ X < 65536 ∧ ((o < 0 ∧ o + 65536 = X ∧ bo' = 1) ∨ (¬ o < 0 ∧ o = X ∧ bo' = 0)) := by
        by_cases h : o < 0
        · exact ⟨(o + 65536).toNat, 1, by omega, by omega, by omega, .inl ⟨h, by omega, rfl⟩⟩
        · exact ⟨o.toNat, 0, by omega, by omega, by omega, .inr ⟨h, by omega, rfl⟩⟩
      have hfin := Lib.hid (hHst.out X bo' hX)
      have hHo := Lib.hid ho
      clear ho hHst hX
      go_wp2
      go_upto_region 6 with (fail)
      go_cut [8] (fun v8 wx => v8 = .int .i64 o ∧ Own w w.heap.size 3 u5 (digV L) wx)
      case first =>
        have hHD := Lib.hid (hHD.out.below (Below.refl wr.heap.size wr).drew (Nat.le_refl _))
        go_region_law (first
          | (go_simp; go_at_call 145; (refine Calls.mono (hcon.out _ hHD.out) ?_); rintro e w' ⟨rfl, rfl⟩))
        all_goals go_wp2_with fail
        all_goals go_meet
        all_goals exact ⟨rfl, hOd⟩
      case rest =>
        clear hOd
        obtain ⟨rfl, hOd⟩ := hcut
        clear hw1 hw2 hc
        rcases hcase with ⟨h0, h1, rfl⟩ | ⟨h0, h1, rfl⟩
        · have hw3 : IntKind.i64.wrap (o + 65536) = (X : Int) := by rw [IntKind.wrap_i64]; omega
          go_wp2_with (at_builtin; refine wpList_own1 (o := ⟨some 31, _, _, _, _, _⟩) rfl (.tmp 28) (.tmp 30) 34 rfl SI rfl hOd (.int .i64 (X : Int)) rfl rfl (by rw [digV_len]; unfold maxLen; omega) (by rw [digV_len]; omega) ?_; intro v1 w1 hO1 hg1 hat1; clear hg1 hat1)
          go_roundw
          case rel => exact ⟨i + 1, L ++ [X], 1, by go_num, rfl, by omega, by rw [digV_snoc]; exact hO1, by simp; omega, by simp; omega, by omega, hH.out.1.append (Sm.one hXl), hfin.out⟩
          case measure => simp [intOf]; omega
        · subst h1
          clear h0 ho1 ho2
          go_wp2_with (at_builtin; refine wpList_own1 (o := ⟨some 31, _, _, _, _, _⟩) rfl (.tmp 28) (.tmp 30) 34 rfl SI rfl hOd (.int .i64 (X : Int)) rfl rfl (by rw [digV_len]; unfold maxLen; omega) (by rw [digV_len]; omega) ?_; intro v1 w1 hO1 hg1 hat1; clear hg1 hat1)
          go_roundw
          case rel => exact ⟨i + 1, L ++ [X], 0, by go_num, rfl, by omega, by rw [digV_snoc]; exact hO1, by simp; omega, by simp; omega, by omega, hH.out.1.append (Sm.one hXl), hfin.out⟩
          case measure => simp [intOf]; omega
    · obtain rfl : i = l.length := by omega
      obtain ⟨A', c', rfl, -, -⟩ := hO.form
      obtain ⟨hn, hD⟩ := ds_own hO hH.out.1
      have hbl := hO.bel
      rw [hn]
      rw [hn] at hO
      have hHO := Lib.hid hO
      have hll := Lib.hid (show L.length = l.length by omega)
      clear hO
      go_wp2_with (go_at_call 146; refine (ref_trim A' L c' _ hD).mono ?_; rintro e w' ⟨q, hq, rfl, hg, rfl⟩)
      go_ret
      have hv := hH.out.2
      rw [List.take_length] at hv
      have hLt := val_lt hH.out.1
      rw [hll.out] at hLt
      have hr := minus_end ha.sm hb.sm hle hv hLt
      exact ⟨_, rfl, hr ▸ isNF_trim hHO.out hH.out.1 hq hg, hbl⟩

theorem order_digit {a b i : Nat} (hlt : a / 65536 ^ (i + 1) = b / 65536 ^ (i + 1)) {x y : Nat} (hx : x = a / 65536 ^ i % 65536) (hy : y = b / 65536 ^ i % 65536) :
    (x < y → order a b = -1) ∧ (y < x → order a b = 1) ∧ (x = y → a / 65536 ^ i = b / 65536 ^ i) := by
  have h := order_step hlt
  rw [← hx, ← hy] at h
  exact ⟨fun e => if_pos (h.1 e), fun e => by unfold order; rw [if_neg (by have := h.2.1 e; omega), if_pos (h.2.1 e)], h.2.2⟩
theorem ref_Order (A : Option Addr) (l : List Nat) (c : Nat) (B : Option Addr) (k : List Nat) (d : Nat) (w : World) (ha : Ds w A l c) (hb : Ds w B k d) (hl : l.length ≤ 1000000) (hk : k.length ≤ 1000000) :
    Calls Try.prog 79 #[.slice A l.length c, .slice B k.length d] w fun e w' => e = .returned (.int .i64 (order (val l) (val k))) ∧ w = w' := by
  go_enter Try.func79, Try.ntmps79
  go_wp2
  all_goals
    go_loop [5] (fun i => ∃ s : Nat, i = .int .i64 ((s : Int) - 1) ∧ s ≤ 1000000 ∧ Hid (val l / 65536 ^ s = val k / 65536 ^ s)) (fun i => (intOf i + 1).toNat)
    case atStart =>
      have h1 := val_lt ha.sm
      have h2 := val_lt hb.sm
      first
      | exact ⟨k.length, rfl, hk, Lib.hid (by rw [Nat.div_eq_of_lt (Nat.lt_of_lt_of_le h1 (Nat.pow_le_pow_right (by omega) (by omega))), Nat.div_eq_of_lt h2])⟩
      | exact ⟨l.length, rfl, hl, Lib.hid (by rw [Nat.div_eq_of_lt h1, Nat.div_eq_of_lt (Nat.lt_of_lt_of_le h2 (Nat.pow_le_pow_right (by omega) (by omega)))])⟩
    case round =>
      obtain ⟨s, rfl, hs, hH⟩ := hrel
      rcases Nat.eq_zero_or_pos s with rfl | hs0
      · have e : val l = val k := by have := hH.out; simpa using this
        have hq := Lib.hid (show order (val l) (val k) = 0 by rw [e]; unfold order; rw [if_neg (by omega), if_neg (by omega)])
        clear e hH
        go_wp2
        go_ret
        exact ⟨by rw [hq.out]; rfl, rfl⟩
      · obtain ⟨i, rfl⟩ : ∃ i, s = i + 1 := ⟨s - 1, by omega⟩
        rw [show (((i + 1 : Nat) : Int) - 1) = (i : Int) by omega]
        have ho := order_digit hH.out (x := digZ l i) (y := digZ k i) (by rw [digZ_nat, Dv.at_ (Dv.mk' ha.sm)]) (by rw [digZ_nat, Dv.at_ (Dv.mk' hb.sm)])
        have hHo := Lib.hid ho
        have hc1 := Lib.hid (ref_digit A l c (i : Int) w ha)
        have hc2 := Lib.hid (ref_digit B k d (i : Int) w hb)
        clear ho hH
        generalize digZ l i = x at *
        generalize digZ k i = y at *
        rcases Nat.lt_trichotomy x y with h | h | h
        · have hq := Lib.hid (hHo.out.1 h)
          go_wp2_with (go_at_call 145; (first | with_reducible refine hc1.out.mono ?_ | with_reducible refine hc2.out.mono ?_); rintro e w' ⟨rfl, rfl⟩)
          go_ret
          exact ⟨by rw [hq.out]; rfl, rfl⟩
        · subst h
          have hq := Lib.hid (hHo.out.2.2 rfl)
          go_wp2_with (go_at_call 145; (first | with_reducible refine hc1.out.mono ?_ | with_reducible refine hc2.out.mono ?_); rintro e w' ⟨rfl, rfl⟩)
          go_round
          case rel => exact ⟨i, rfl, by omega, hq⟩
          case measure => simp [intOf]
        · have hq := Lib.hid (hHo.out.2.1 h)
          have hn : ¬ x < y := by omega
          go_wp2_with (go_at_call 145; (first | with_reducible refine hc1.out.mono ?_ | with_reducible refine hc2.out.mono ?_); rintro e w' ⟨rfl, rfl⟩)
          go_ret
          exact ⟨by rw [hq.out]; rfl, rfl⟩
/-- In numbers alone. -/
theorem minusN {u v : Value} {m n : Nat} (w : World) (hu : IsV w u m) (hv : IsV w v n) (hle : n ≤ m) : Calls Try.prog 71 #[u, v] w (RetNF (m - n) w) := by
  obtain ⟨A, l, c, rfl, hD, rfl, hl⟩ := hu
  obtain ⟨B, k, d, rfl, hE, rfl, hk⟩ := hv
  exact ref_Minus A l c B k d w hD hE hl hle
theorem orderN {u v : Value} {m n : Nat} (w : World) (hu : IsV w u m) (hv : IsV w v n) : Calls Try.prog 79 #[u, v] w fun e w' => e = .returned (.int .i64 (order m n)) ∧ w = w' := by
  obtain ⟨A, l, c, rfl, hD, rfl, hl⟩ := hu
  obtain ⟨B, k, d, rfl, hE, rfl, hk⟩ := hv
  exact ref_Order A l c B k d w hD hE hl hk
end Go.Proofs.Ytodcjeaannfbnaa
namespace Go.Proofs.Ytodcjeaannfbnaa
open Go.ChangeShapes Go.WideShapes Go.ChangeAt Go.RowKit
set_option maxHeartbeats 1000000
set_option maxRecDepth 100000

/-- A literal of one element is the call's own. -/
theorem Own.lit {w0 W : World} {B : Nat} (e : TypeId) (u : Value) (hb : Below B w0 W) (hB : B ≤ W.heap.size) : Own w0 B e (.slice (some ⟨W.heap.size, 0, none⟩) 1 1) [u] (W.alloc (.cells #[u] e)) :=
  ⟨World.ownsRow_lit W #[u] 1 hB (by unfold maxLen; omega) rfl, hb.alloc hB _, by simp; omega⟩
/-- What Parts has ahead of digit i - 1. -/
def ptQ (a m i : Nat) : Nat := a / 65536 ^ i / m * 65536 ^ i
def ptR (a m i : Nat) : Nat := a / 65536 ^ i % m
theorem pt_up {l : List Nat} (h : Sm l) (i : Nat) : val l / 65536 ^ i = l[i]?.getD 0 + 65536 * (val l / 65536 ^ (i + 1)) := by
  rw [val_at h, Nat.pow_succ, ← Nat.div_div_eq_div_mul, Nat.mod_add_div]
theorem pt_round {a m i d : Nat} (hm : 0 < m) (h : a / 65536 ^ i = d + 65536 * (a / 65536 ^ (i + 1))) :
    ptR a m i = (d + 65536 * ptR a m (i + 1)) % m ∧ ptQ a m i = ptQ a m (i + 1) + 65536 ^ i * ((d + 65536 * ptR a m (i + 1)) / m) := by
  unfold ptR ptQ
  rw [h]
  generalize a / 65536 ^ (i + 1) = A
  have hA := Nat.mod_add_div A m
  have e : d + 65536 * A = (d + 65536 * (A % m)) + m * (65536 * (A / m)) := by
    conv => lhs; rw [← hA]
    rw [Nat.mul_add, Nat.mul_left_comm 65536 m]; omega
  rw [e, Nat.add_mul_mod_self_left, Nat.add_mul_div_left _ _ hm]
  refine ⟨rfl, ?_⟩
  rw [Nat.add_mul, Nat.pow_succ, Nat.add_comm, Nat.mul_comm ((d + 65536 * (A % m)) / m)]
  congr 1
  rw [Nat.mul_comm 65536 (A / m), Nat.mul_assoc, Nat.mul_comm 65536]
theorem pt_start {l : List Nat} (h : Sm l) (m : Nat) : ptR (val l) m l.length = 0 ∧ ptQ (val l) m l.length = 0 := by
  have : val l / 65536 ^ l.length = 0 := Nat.div_eq_of_lt (val_lt h)
  unfold ptR ptQ
  rw [this]; simp
theorem pt_end (a m : Nat) : ptR a m 0 = a % m ∧ ptQ a m 0 = a / m := by simp [ptR, ptQ]
theorem pt_lt {a m i : Nat} (hm : 0 < m) : ptR a m i < m := Nat.mod_lt _ hm

def RetQR (q r : Nat) (w : World) (e : Ending) (w' : World) : Prop := ∃ u v, e = .returned (.tuple #[u, v]) ∧ IsN w' u q ∧ IsN w' v r ∧ Below w.heap.size w w'

theorem own_digs {w0 W : World} {B : Nat} {e : TypeId} {v : Value} {l : List Nat} (h : Own w0 B e v (digV l) W) (hs : Sm l) : ∃ A c, v = .slice A l.length c ∧ Ds W A l c ∧ Own w0 B e (.slice A l.length c) (digV l) W := by
  obtain ⟨A, c, e1, -, -⟩ := h.form
  rw [digV_len] at e1
  subst e1
  exact ⟨A, c, rfl, (ds_own h hs).2, h⟩
theorem lt_len {l : List Nat} {n : Nat} (h : Dg l n) (hn : n < big) : l.length ≤ 10000 := by
  have := h.len hn
  unfold bigK at this
  exact this
theorem order_le {a b : Nat} (h : a ≤ b) : order a b ≤ 0 := by
  by_cases e : a < b
  · rw [show order a b = -1 from if_pos e]; omega
  · unfold order; rw [if_neg e, if_neg (by omega)]; omega
theorem order_nle {a b : Nat} (h : ¬ a ≤ b) : ¬ order a b ≤ 0 := by unfold order; rw [if_neg (by omega), if_pos (by omega)]; omega

theorem ref_Parts (A : Option Addr) (l : List Nat) (c : Nat) {v : Value} {m : Nat} (w : World) (ha : Ds w A l c) (hl : l.length ≤ 500000) (hv : IsV w v m) (hm : 0 < m) (hmb : 65536 * m < big) :
    Calls Try.prog 143 #[.slice A l.length c, v] w (RetQR (val l / m) (val l % m) w) := by
  have hmk := run_make_dig l.length (by omega)
  have hR := DRow.new w (List.replicate l.length 0) 3
  have hL : Below w.heap.size w (w.alloc (.cells (digA (List.replicate l.length 0)) 3)) := by go_grown
  obtain ⟨n, hn⟩ : ∃ n, n = l.length := ⟨_, rfl⟩
  go_enter Try.func143, Try.ntmps143
  go_wp2
  generalize w.alloc (.cells (digA (List.replicate l.length 0)) 3) = W0 at *
  go_loopw [7, 8] (fun r i wr => ∃ (s : Nat) (L : List Nat), i = .int .i64 ((s : Int) - 1) ∧ s ≤ l.length ∧ L.length ≤ l.length ∧ l.length ≤ L.length ∧ DRow wr w.heap.size L ∧ IsNF wr (w.heap.size + 1) r (ptR (val l) m s) ∧ Below w.heap.size w wr ∧
    Hid (Sm L ∧ val L = ptQ (val l) m s ∧ ∀ j, j < s → L[j]?.getD 0 = 0)) (fun _ i _ => (intOf i + 1).toNat)
  case atStart =>
    refine ⟨l.length, _, rfl, Nat.le_refl _, by simp, by simp, hR, ?_, hL, sm_zeros _, by rw [val_zeros, (pt_start ha.sm m).2], fun j _ => by simp [List.getElem?_replicate]; split <;> rfl⟩
    rw [(pt_start ha.sm m).1]
    exact ⟨none, [], 0, rfl, ⟨Rd.nil, Sm.nil, by simp, by omega⟩, Dg.nil, fun ad h => by cases h⟩
  case round =>
    clear hR hL hmk
    obtain ⟨s, L, rfl, hs, hL1, hL2, hR, hN, hL, hH⟩ := hrel
    rcases Nat.eq_zero_or_pos s with rfl | hs0
    · rw [(pt_end (val l) m).1] at hN
      have hvL := hH.out.2.1
      rw [(pt_end (val l) m).2] at hvL
      have hHvL := Lib.hid hvL
      have hDs := hR.ds hH.out.1 (by omega)
      have hlen := Lib.hid (show L.length = l.length by omega)
      have hcon := Lib.hid (ref_trim _ L _ wr hDs)
      rw [hlen.out] at hcon
      rw [hlen.out] at hDs
      have hHDs := Lib.hid hDs
      clear hvL hDs
      go_wp2_with (go_at_call 146; refine hcon.out.mono ?_; rintro e w' ⟨q, hq, rfl, hg, rfl⟩)
      go_ret2
      exact ⟨_, _, rfl, hHvL.out ▸ isN_trim hHDs.out hq hg, hN.toN, hL⟩
    · obtain ⟨i, rfl⟩ : ∃ i, s = i + 1 := ⟨s - 1, by omega⟩
      rw [show (((i + 1 : Nat) : Int) - 1) = (i : Int) by omega]
      have hlt : i < l.length := by omega
      obtain ⟨ad, rfl, hbl, hc⟩ := digV_at (ha.below hL (Nat.le_refl _)).rd hlt
      have hpr := Lib.hid (pt_round (m := m) hm (pt_up ha.sm i))
      rw [List.getElem?_eq_getElem hlt, Option.getD_some] at hpr
      have hrm := pt_lt (a := val l) (i := i + 1) hm
      have hd := ha.sm l[i] (List.getElem_mem _)
      generalize l[i] = d at *
      generalize hr : ptR (val l) m (i + 1) = r at *
      have hHr := Lib.hid hr
      clear hr
      obtain ⟨A2, k, c2, rfl, hD, hG, hB⟩ := hN
      have hkb : k.length ≤ 10000 := lt_len hG (by omega)
      have hO := Own.lit (w0 := wr) (W := wr) (e := 3) (u := .int .i64 (d : Int)) (Below.refl _ _) (Nat.le_refl _)
      obtain ⟨L1, hL1e⟩ : ∃ L1, L1 = d :: k := ⟨_, rfl⟩
      have hs1 : Sm L1 := by rw [hL1e]; exact fun x hx => by rcases List.mem_cons.1 hx with h | h; exact h ▸ hd; exact hD.sm x h
      have hv1 : val L1 = d + 65536 * r := by rw [hL1e, ← hG.val]; rfl
      have hdg : [Value.int IntKind.i64 (d : Int)] ++ digV k = digV L1 := by rw [hL1e]; rfl
      have hrd := (hD.below (below_alloc wr (Obj.cells #[Value.int IntKind.i64 (d : Int)] 3)) (Nat.le_refl _)).rd
      have hHdg := Lib.hid hdg
      have hHv1 := Lib.hid hv1
      clear hL1e hv1 hdg hG hD
      go_wp2_with (first
        | (at_builtin; refine wpList_own (o := ⟨some 28, _, _, _, _, _⟩) rfl (.tmp 26) (.tmp 27) 34 rfl SI rfl hO (news := digV k) (c := c2) (by rw [digV_len]; rfl) hrd (digV_one k) (by rw [digV_len]; unfold maxLen; simp; omega) (by rw [digV_len]; simp; omega) ?_; intro v1 w1 hO1 hg1 hat1; clear hg1 hat1; rw [hHdg.out] at hO1; obtain ⟨A1, c1, rfl, hD1, hO2⟩ := own_digs hO1 hs1; clear hO1)
        | (go_at_call 146; refine (ref_trim A1 L1 c1 _ hD1).mono ?_; rintro e w' ⟨q, hq, rfl, hg, rfl⟩; have hN1 := isNF_trim hO2 hs1 hq hg))
      have hgl := hR.row.lt
      have hbw := hO2.bel
      rw [hHv1.out] at hN1
      have hN1 := hN1.mono (show w.heap.size + 1 ≤ wr.heap.size by omega)
      generalize Value.slice A1 q c1 = r1 at *
      have hR1 := hR.below hbw hgl
      have hL1' := below_step hbw hL (Nat.le_refl _)
      obtain ⟨R1, hR1e⟩ : ∃ R1, R1 = d + 65536 * r := ⟨_, rfl⟩
      rw [← hR1e] at hN1 hpr
      have hR1m : R1 < 65536 * m := by rw [hR1e]; have : 65536 * r + 65536 ≤ 65536 * m := by omega
                                       omega
      clear hR1e hO hO2 hD1 hg hq hrd hHdg hHv1 hR hL hbw hc hs1
      go_loopw [9, 10] (fun a b wr => ∃ lo hi : Nat, a = .int .i64 lo ∧ b = .int .i64 hi ∧ lo < hi ∧ hi ≤ 65536 ∧ DRow wr w.heap.size L ∧ IsNF wr (w.heap.size + 1) r1 R1 ∧ Below w.heap.size w wr ∧ Hid (m * lo ≤ R1 ∧ R1 < m * hi)) (fun a b _ => (intOf b).toNat - (intOf a).toNat)
      case atStart => exact ⟨0, 65536, rfl, rfl, by omega, by omega, hR1, hN1, hL1', Lib.hid ⟨by omega, by omega⟩⟩
      case round =>
        clear hR1 hN1 hL1'
        obtain ⟨lo, hi, rfl, rfl, hlh, hh, hR, hN, hL, hI⟩ := hrel
        have hRb : R1 < big := by omega
        by_cases hgo : lo + 1 < hi
        · obtain ⟨mid, hmid⟩ : ∃ mid, mid = (lo + hi) / 2 := ⟨_, rfl⟩
          have hmi : ((lo : Int) + hi) / 2 = mid := by omega
          have hm1 : lo < mid := by omega
          have hm2 : mid < hi := by omega
          have hgi : (1 : Int) < (hi : Int) - lo := by omega
          have hmb2 : m * mid < big := Nat.lt_of_le_of_lt (Nat.mul_le_mul_left m (show mid ≤ 65536 by omega)) (by rw [Nat.mul_comm]; exact hmb)
          have hnf := Lib.hid hN
          have hvw := Lib.hid (hv.step hL)
          clear hmid hgo
          by_cases hle : m * mid ≤ R1
          · obtain ⟨o, ho, ho2⟩ : ∃ o : Int, order (m * mid) R1 = o ∧ o ≤ 0 := ⟨_, rfl, order_le hle⟩
            have hHo := Lib.hid ho
            clear ho
            go_wp2_with (first
              | (go_at_call 73; refine (timesN (m := m) (n := mid) _ (hvw.out.step (below_alloc _ _)) (IsV.lit _ _ (by omega))).mono ?_; rintro e w' ⟨t, rfl, ht, hbt⟩; have hbt := (below_alloc _ _).trans (hbt.mono (by simp)))
              | (go_at_call 79; refine (orderN (m := m * mid) (n := R1) _ (ht.toV hmb2) ((hnf.out.step hbt).toN.toV hRb)).mono ?_; rintro e w' ⟨rfl, rfl⟩; rw [hHo.out]))
            go_roundw
            case rel => exact ⟨mid, hi, rfl, rfl, hm2, hh, hR.below hbt hR.row.lt, hN.step hbt, below_step hbt hL (Nat.le_refl _), Lib.hid ⟨hle, hI.out.2⟩⟩
            case measure => simp [intOf]; omega
          · obtain ⟨o, ho, ho2⟩ : ∃ o : Int, order (m * mid) R1 = o ∧ ¬ o ≤ 0 := ⟨_, rfl, order_nle hle⟩
            have hHo := Lib.hid ho
            clear ho
            go_wp2_with (first
              | (go_at_call 73; refine (timesN (m := m) (n := mid) _ (hvw.out.step (below_alloc _ _)) (IsV.lit _ _ (by omega))).mono ?_; rintro e w' ⟨t, rfl, ht, hbt⟩; have hbt := (below_alloc _ _).trans (hbt.mono (by simp)))
              | (go_at_call 79; refine (orderN (m := m * mid) (n := R1) _ (ht.toV hmb2) ((hnf.out.step hbt).toN.toV hRb)).mono ?_; rintro e w' ⟨rfl, rfl⟩; rw [hHo.out]))
            go_roundw
            case rel => exact ⟨lo, mid, rfl, rfl, hm1, by omega, hR.below hbt hR.row.lt, hN.step hbt, below_step hbt hL (Nat.le_refl _), Lib.hid ⟨hI.out.1, by omega⟩⟩
            case measure => simp [intOf]; omega
        · have hgi : ¬ (1 : Int) < (hi : Int) - lo := by omega
          have hq : R1 / m = lo := by
            have h1 := hI.out.1
            have h2 := hI.out.2
            rw [show hi = lo + 1 by omega] at h2
            exact Nat.div_eq_of_lt_le (by rw [Nat.mul_comm]; exact h1) (by rw [Nat.mul_comm]; exact h2)
          rw [hq] at hpr
          have hRm : R1 % m = R1 - m * lo := by
            have := Nat.mod_add_div R1 m
            rw [hq] at this; omega
          rw [hRm] at hpr
          have hlo : lo < 65536 := by omega
          have hle := hI.out.1
          have hmb2 : m * lo < big := by omega
          have hnf := Lib.hid hN
          have hvw := Lib.hid (hv.step hL)
          have hQ0 := hH.out.2.2 i (by omega)
          have hvs := val_set L i lo (by omega)
          rw [hQ0, Nat.mul_zero, Nat.add_zero, hH.out.2.1, ← hpr.out.2] at hvs
          have hfin : Hid (Sm (L.set i lo) ∧ val (L.set i lo) = ptQ (val l) m i ∧ ∀ j, j < i → (L.set i lo)[j]?.getD 0 = 0) :=
            Lib.hid ⟨hH.out.1.set _ hlo, hvs, fun j hj => by rw [List.getElem?_set_ne (by omega)]; exact hH.out.2.2 j (by omega)⟩
          have hsl1 : (L.set i lo).length ≤ l.length := by simp; omega
          have hsl2 : l.length ≤ (L.set i lo).length := by simp; omega
          have hpr1 := Lib.hid hpr.out.1
          clear hq hRm hQ0 hvs hpr hI
          have hget : DRow (wr.setCell ⟨w.heap.size, i, none⟩ (.int .i64 (lo : Int))) w.heap.size (L.set i lo) := hR.set i lo
          by_cases h0 : lo = 0
          · have h0' : ¬ (0 : Int) < lo := by omega
            have hRr : ptR (val l) m i = R1 := by rw [hpr1.out, h0]; simp
            have hHRr := Lib.hid hRr
            have c1 := hR.cell (i := i) (by omega)
            have f1 := hR.row.frozen i
            have hHg := Lib.hid hget
            clear h0 hRr hpr1 hget
            go_wp2
            go_roundw
            case rel => exact ⟨i, L.set i lo, rfl, by omega, hsl1, hsl2, hHg.out, hHRr.out ▸ hN.setCell (by simp) _, hL.setCell (Nat.le_refl _) _, hfin⟩
            case measure => simp [intOf]
          · have h0' : (0 : Int) < lo := by omega
            clear h0 hget
            go_wp2_with (first
              | (go_at_call 73; refine (timesN (m := m) (n := lo) _ (hvw.out.step (below_alloc _ _)) (IsV.lit _ _ hlo)).mono ?_; rintro e w' ⟨t, rfl, ht, hbt⟩; have hbt := (below_alloc _ _).trans (hbt.mono (by simp)))
              | (go_at_call 71; refine (minusN (m := R1) (n := m * lo) _ ((hnf.out.step hbt).toN.toV hRb) (ht.toV hmb2) hle).mono ?_; rintro e w2 ⟨r2, rfl, hN2, hb2⟩; have hb3 := below_step hb2 hbt (Nat.le_refl _); have hR3 := hR.below hb3 hR.row.lt; have c1 := hR3.cell (i := i) (by omega); have f1 := hR3.row.frozen i; have hL3 := below_step hb3 hL (Nat.le_refl _); have hN3 := hN2.mono (show w.heap.size + 1 ≤ w'.heap.size from Nat.le_trans hR.row.lt hbt.size)))
            go_roundw
            case rel => exact ⟨i, L.set i lo, rfl, by omega, hsl1, hsl2, hR3.set i lo, hpr1.out ▸ hN3.setCell (by simp) _, hL3.setCell (Nat.le_refl _) _, hfin⟩
            case measure => simp [intOf]
/-- In numbers alone. -/
theorem partsN {u v : Value} {a m k : Nat} (w : World) (hu : IsN w u a) (ha : a < 2 ^ k) (hk : k ≤ 160000) (hv : IsV w v m) (hm : 0 < m) (hmb : 65536 * m < big) :
    Calls Try.prog 143 #[u, v] w (RetQR (a / m) (a % m) w) := by
  obtain ⟨A, l, c, rfl, hD, hG⟩ := hu
  have hl := lt_len hG (lt_big ha hk)
  have h := ref_Parts A l c w hD (by omega) hv hm hmb
  rw [hG.val] at h
  exact h
theorem restN {u v : Value} {a m k : Nat} (w : World) (hu : IsN w u a) (ha : a < 2 ^ k) (hk : k ≤ 160000) (hv : IsV w v m) (hm : 0 < m) (hmb : 65536 * m < big) :
    Calls Try.prog 66 #[u, v] w (RetN (a % m) w) := by
  have hc := Lib.hid (partsN w hu ha hk hv hm hmb)
  obtain ⟨A, l, c, rfl, -⟩ := hu
  obtain ⟨B, l2, c2, rfl, -⟩ := hv
  go_enter Try.func66, Try.ntmps66
  go_wp2_with fail
  refine hc.out.mono ?_
  rintro e w' ⟨u, v, rfl, -, hN, hb⟩
  go_wp2
  go_ret
  exact ⟨v, rfl, hN, hb⟩
/-- The number that a slice's digits are. -/
def digOf (w : World) : Value → Nat
  | .slice (some ad) n _ => val ((List.range n).map fun j => (intOf ((w.cell? (ad.add j)).getD undef)).toNat)
  | _ => 0
theorem digOf_is {w : World} {v : Value} {n : Nat} (h : IsN w v n) : digOf w v = n := by
  obtain ⟨A, l, c, rfl, hD, hG⟩ := h
  cases A with
  | none =>
    have : l = [] := by
      cases l with
      | nil => rfl
      | cons d r => obtain ⟨ad, e, -⟩ := hD.rd 0 _ rfl; cases e
    subst this
    exact hG.val
  | some ad =>
    show val _ = n
    rw [← hG.val]
    congr 1
    apply List.ext_getElem (by simp)
    intro j h1 h2
    have := hD.rd.all (j := j) (u := .int .i64 (l[j] : Nat)) (by simp [digV, h2])
    simp [this, intOf]
end Go.Proofs.Ytodcjeaannfbnaa
namespace Go.Proofs.Ytodcjeaannfbnaa
open Go.ChangeShapes Go.WideShapes Go.ChangeAt Go.RowKit
set_option maxHeartbeats 2000000
set_option maxRecDepth 100000
attribute [local go_sem ↓] load_fe store_fe execl_fe execs_fe load_num store_num execl_num execs_num
attribute [local go_sem] isHead_mk blkOf_mk isAgg_mk cellsV_mk row_drew rowAt_drew row_new_cells row_old rowAt_new rowAt_old setRow_new zeroFe zeroNum
theorem dgt_zero (i : Nat) : dgt 0 i = 0 := by unfold dgt; rw [Nat.zero_div]
theorem fe1 {n : Nat} (hn : n < 65536) : #[Value.int IntKind.i64 (n : Int), Value.int IntKind.i64 0, Value.int IntKind.i64 0, Value.int IntKind.i64 0, Value.int IntKind.i64 0, Value.int IntKind.i64 0, Value.int IntKind.i64 0, Value.int IntKind.i64 0, Value.int IntKind.i64 0, Value.int IntKind.i64 0, Value.int IntKind.i64 0, Value.int IntKind.i64 0, Value.int IntKind.i64 0, Value.int IntKind.i64 0, Value.int IntKind.i64 0, Value.int IntKind.i64 0] = arrK .i64 16 (dgt n) := by
  have h : #[Value.int IntKind.i64 (n : Int), Value.int IntKind.i64 0, Value.int IntKind.i64 0, Value.int IntKind.i64 0, Value.int IntKind.i64 0, Value.int IntKind.i64 0, Value.int IntKind.i64 0, Value.int IntKind.i64 0, Value.int IntKind.i64 0, Value.int IntKind.i64 0, Value.int IntKind.i64 0, Value.int IntKind.i64 0, Value.int IntKind.i64 0, Value.int IntKind.i64 0, Value.int IntKind.i64 0, Value.int IntKind.i64 0] = arrK .i64 16 fun i => if i = 0 then n else 0 := by kernel_rfl
  rw [h]
  refine arrK_congr fun i hi => ?_
  unfold dgt
  by_cases e : i = 0
  · subst e; rw [if_pos rfl]; omega
  · rw [if_neg e, Nat.div_eq_of_lt]
    obtain ⟨j, rfl⟩ : ∃ j, i = j + 1 := ⟨i - 1, by omega⟩
    rw [Nat.pow_succ]
    have : 0 < 65536 ^ j := Nat.pow_pos (by omega)
    exact Nat.lt_of_lt_of_le hn (Nat.le_mul_of_pos_left _ this)
theorem build_fe {n : Nat} (hn : n < 65536) (w : World) : (Instr.build 26 #[(0, Value.int IntKind.i64 (n : Int))]).run Try.prog w = .ok (.agg (arrK .i64 16 (dgt n))) w := (run_build w _ _ _ (by kernel_rfl)).trans (by rw [← fe1 hn])
theorem ref_small (n : Nat) (w : World) (hn : n < 65536) : Calls Try.prog 89 #[.int .i64 n] w fun e w' => e = .returned (feV n) ∧ Below w.heap.size w w' := by
  unfold feV
  have hb := Lib.hid (fun V => build_fe hn V)
  clear hn
  have hcz := arrK_cells .i64 16 fun _ => 0
  have hcp := arrK_cells .i64 16 (dgt n)
  have hL0 := below_alloc w (Obj.cells (arrK .i64 16 fun _ => 0) 26)
  have hR0 : Row (w.alloc (Obj.cells (arrK .i64 16 fun _ => 0) 26)) w.heap.size 16 := (row_new rfl).2 hcz.1
  go_enter Try.func89, Try.ntmps89
  go_upto_region 1 with (fail)
  generalize w.alloc _ = W0 at *
  go_wp2_with (refine wpList_bldA (vx := Value.int IntKind.i64 (n : Int)) rfl rfl (by go_simp) (hb.out _) ?_)
  exact ret_stored (p := 2) (ty := 26) (g := w.heap.size) (n := 16) (c := arrK .i64 16 (dgt n)) rfl Try.underlying26 rfl (by kernel_rfl) rfl hR0 hcp.1 rfl ⟨rfl, below_setRow hL0 (Nat.le_refl _)⟩
theorem digN {u : Value} {m : Nat} (i : Nat) (w : World) (hu : IsV w u m) : Calls Try.prog 145 #[u, .int .i64 (i : Int)] w fun e w' => e = .returned (.int .i64 (dgt m i : Nat)) ∧ w = w' := by
  obtain ⟨A, l, c, rfl, hD, rfl, hl⟩ := hu
  refine (ref_digit A l c i w hD).mono ?_
  rintro e w' ⟨rfl, rfl⟩
  rw [digZ_nat, Dv.at_ (Dv.mk' hD.sm)]
  exact ⟨rfl, rfl⟩
theorem ref_feOf {u : Value} {n : Nat} (w : World) (hu : IsV w u n) : Calls Try.prog 85 #[u] w fun e w' => e = .returned (feV n) ∧ Below w.heap.size w w' := by
  unfold feV
  have hcz := arrK_cells .i64 16 fun _ => 0
  have hL0 : Below w.heap.size w ((w.alloc (Obj.cells (arrK .i64 16 fun _ => 0) 26)).alloc (Obj.cells (arrK .i64 16 fun _ => 0) 26)) := by go_grown
  have hR0 : Row ((w.alloc (Obj.cells (arrK .i64 16 fun _ => 0) 26)).alloc (Obj.cells (arrK .i64 16 fun _ => 0) 26)) w.heap.size 16 := ((At.new (k := .i64) (f := fun _ => 0) _ rfl).old _).row
  have hX0 : At ((w.alloc (Obj.cells (arrK .i64 16 fun _ => 0) 26)).alloc (Obj.cells (arrK .i64 16 fun _ => 0) 26)) (w.heap.size + 1) .i64 16 (mixD (dgt n) 0) := (At.new _ (by simp)).congr fun i _ => by simp [mixD]
  have hU0 : IsV ((w.alloc (Obj.cells (arrK .i64 16 fun _ => 0) 26)).alloc (Obj.cells (arrK .i64 16 fun _ => 0) 26)) u n := (hu.alloc _).alloc _
  have hL := Lib.hid hL0
  have hR := Lib.hid hR0
  have hX := Lib.hid hX0
  have hU := Lib.hid hu
  clear hL0 hR0 hX0 hU0 hu
  go_enter Try.func85, Try.ntmps85
  go_wp2_with fail
  generalize (w.alloc _).alloc _ = W0 at *
  go_loopw [5] (fun i wr => ∃ s : Nat, i = .int .i64 s ∧ s ≤ 16 ∧ Hid (Row wr w.heap.size 16) ∧ Hid (At wr (w.heap.size + 1) .i64 16 (mixD (dgt n) s)) ∧ Hid (Below w.heap.size w wr)) (fun i _ => 16 - (intOf i).toNat)
  case atStart => exact ⟨0, rfl, by omega, hR, hX, hL⟩
  case round =>
    clear hR hX hL
    obtain ⟨s, rfl, hs, hR, hX, hL⟩ := hrel
    by_cases h16 : s = 16
    · subst h16
      rw [show ((16 : Nat) : Int) = 16 from rfl]
      have hX2 := hX.out.congr (f' := dgt n) fun i hi => by unfold mixD; rw [if_pos hi]
      have hr1 := hX2.row
      have hr2 := hX2.eq
      have hr3 := hR.out
      have hcv := arrK_cells .i64 16 (dgt n)
      clear hX hU hX2
      go_wp2_with fail
      exact ret_stored (p := 2) (ty := 26) (g := w.heap.size) (n := 16) (c := arrK .i64 16 (dgt n)) rfl Try.underlying26 rfl (by kernel_rfl) rfl hr3 hcv.1 rfl ⟨rfl, below_setRow hL.out (by omega)⟩
    · have hs16 : (s : Int) < 16 := by omega
      have hc := Lib.hid (digN s wr (hU.out.step hL.out))
      have cx := hX.out.cell (i := s) (by omega)
      have fx := hX.out.row.frozen s
      have hX2 := Lib.hid ((hX.out.set s (dgt n s)).congr fun p _ => mixD_step (dgt n) s p)
      have hR2 : Hid (Row (wr.setCell ⟨w.heap.size + 1, s, none⟩ (.int .i64 (dgt n s : Nat))) w.heap.size 16) := Lib.hid (row_setCell.2 hR.out)
      have hL2 := Lib.hid (show Below w.heap.size w (wr.setCell ⟨w.heap.size + 1, s, none⟩ (.int .i64 (dgt n s : Nat))) from hL.out.setCell (by simp <;> omega) _)
      clear hX hR hL
      generalize mixD (dgt n) s s = yy at *
      generalize dgt n s = d at *
      go_wp2_with fail
      refine hc.out.mono ?_
      rintro e w' ⟨rfl, rfl⟩
      dsimp only
      go_wp2_with fail
      go_roundw
      case rel => exact ⟨s + 1, by go_num, by omega, hR2, hX2, hL2⟩
      case measure => simp [intOf]; omega
theorem ref_Modulus (w : World) : Calls Try.prog 17 #[] w (RetN fP w) := by
  have h0 := Lib.hid (fun V => ref_TwoTo 255 V (by omega))
  have hbg := Lib.hid (show 2 ^ 255 < big from lt_big (k := 256) (Nat.pow_lt_pow_right (by omega) (by omega)) (by omega))
  have hle := Lib.hid (show 19 ≤ 2 ^ 255 by decide +kernel)
  rw [show fP = 2 ^ 255 - 19 from rfl]
  obtain ⟨Q, hQ⟩ : ∃ Q, 2 ^ 255 = Q := ⟨_, rfl⟩
  rw [hQ] at h0 hbg hle ⊢
  clear hQ
  go_enter Try.func17, Try.ntmps17
  go_wp2_with fail
  refine (h0.out _).mono ?_
  rintro e w2 ⟨v, rfl, hv, hb2⟩
  have hV := Lib.hid ((hv.toV hbg.out).alloc (.cells #[.int .i64 19] 3))
  have hN := Lib.hid (IsV.lit w2 3 (d := 19) (by omega))
  have hL := Lib.hid (Below.trans hb2 ((below_alloc w2 (.cells #[.int .i64 19] 3)).mono hb2.size))
  clear hv hb2
  dsimp only
  go_wp2_with fail
  refine (minusN _ hV.out hN.out hle.out).mono ?_
  rintro e w3 ⟨v3, rfl, hv3, hb3⟩
  have hv4 := Lib.hid hv3
  have hL3 := Lib.hid (below_step hb3 hL.out (Nat.le_refl _))
  clear hv3 hb3
  dsimp only
  go_wp2_with fail
  go_ret
  exact ⟨v3, rfl, hv4.out.toN, hL3.out⟩
end Go.Proofs.Ytodcjeaannfbnaa
namespace Go.Proofs.Ytodcjeaannfbnaa
open Go.ChangeShapes Go.WideShapes Go.ChangeAt Go.RowKit
set_option maxHeartbeats 2000000
set_option maxRecDepth 100000
attribute [local go_sem ↓] load_fe store_fe execl_fe execs_fe load_num store_num execl_num execs_num
attribute [local go_sem] isHead_mk blkOf_mk isAgg_mk cellsV_mk row_drew rowAt_drew row_new_cells row_old rowAt_new rowAt_old setRow_new zeroFe zeroNum
theorem val_range (f : Nat → Nat) (k : Nat) : val ((List.range k).map f) = dval f k := by
  induction k with
  | zero => rfl
  | succ k ih => rw [List.range_succ, List.map_append, List.map_cons, List.map_nil, val_snoc, ih, List.length_map, List.length_range]; rfl
theorem IsV.fe {W : World} {g n : Nat} (h : At W g .i64 16 (dgt n)) (hn : n < 2 ^ 256) : IsV W (.slice (some ⟨g, 0, none⟩) 16 16) n := by
  have hl : ((List.range 16).map (dgt n)).length = 16 := by simp
  refine ⟨some ⟨g, 0, none⟩, (List.range 16).map (dgt n), 16, by rw [hl], ⟨fun j u hu => ?_, fun d hd => ?_, by omega, by omega⟩, ?_, by omega⟩
  · refine ⟨⟨g, 0, none⟩, rfl, h.lt, ?_⟩
    have hj : j < 16 := by
      rcases Nat.lt_or_ge j 16 with h1 | h1
      · exact h1
      · rw [List.getElem?_eq_none (by simp [digV]; omega)] at hu; cases hu
    have h1 := h.cell hj
    have h2 : (⟨g, 0, none⟩ : Addr).add j = ⟨g, j, none⟩ := by
      by_cases e : j = 0
      · subst e; simp [Addr.add]
      · simp [Addr.add, e]
    rw [h2, h1, ← hu]
    simp [digV, List.getElem?_range hj]
  · obtain ⟨i, -, rfl⟩ := List.mem_map.1 hd
    exact dgt_lt _ _
  · rw [val_range, dval_dgt, p16, Nat.mod_eq_of_lt hn]
theorem fe_Num (n : Nat) (w : World) (hn : n < 2 ^ 256) : Calls Try.prog 19 #[feV n] w fun e w' => e = .returned (numV n) ∧ Below w.heap.size w w' := by
  have hl := Lib.hid hn
  clear hn
  have hcn := arrK_cells .u64 4 (wd n)
  have hcz := arrK_cells .u64 4 (wd 0)
  unfold feV
  have hL0 : Below w.heap.size w ((w.alloc (Obj.cells (arrK .i64 16 (dgt n)) 26)).alloc (Obj.cells (arrK .u64 4 (wd 0)) 24)) := by go_grown
  have hA0 : At ((w.alloc (Obj.cells (arrK .i64 16 (dgt n)) 26)).alloc (Obj.cells (arrK .u64 4 (wd 0)) 24)) w.heap.size .i64 16 (dgt n) := (At.new _ rfl).old _
  have hR0 : Row ((w.alloc (Obj.cells (arrK .i64 16 (dgt n)) 26)).alloc (Obj.cells (arrK .u64 4 (wd 0)) 24)) (w.heap.size + 1) 4 := (At.new (k := .u64) (f := wd 0) _ (by simp)).row
  have hL := Lib.hid hL0
  have hR := Lib.hid hR0
  have hA := Lib.hid hA0
  clear hL0 hR0 hA0
  go_enter Try.func19, Try.ntmps19
  go_upto_region 1 with (fail)
  generalize (w.alloc _).alloc _ = W0 at *
  have hc := Lib.hid (toNumN W0 (IsV.fe hA.out hl.out))
  unfold numV at hc
  go_wp2_with fail
  refine hc.out.mono ?_
  rintro e w2 ⟨rfl, hb⟩
  have hR2 := row_below hR.out hb hR.out.lt
  have hL2 := Lib.hid (below_step hb hL.out (Nat.le_refl _))
  clear hA hR hL hb
  dsimp only
  go_wp2_with fail
  exact ret_stored (p := 2) (ty := 24) (g := w.heap.size + 1) (n := 4) (c := arrK .u64 4 (wd n)) rfl Try.underlying24 rfl (by kernel_rfl) rfl hR2 hcn.1 rfl ⟨rfl, below_setRow hL2.out (by omega)⟩
theorem P_mul_big : 65536 * fP < big := mul_big (m := 17) (n := 256) (by omega) P_lt (by omega)
theorem P_big : fP < big := lt_big P_lt (by omega)
theorem ref_Field (a : Nat) (w : World) (ha : a < 2 ^ 256) : Calls Try.prog 12 #[numV a] w fun e w' => e = .returned (feV (a % fP)) ∧ Below w.heap.size w w' := by
  have hl := Lib.hid ha
  have h1 := Lib.hid (fun V => ref_OfNum a V ha)
  have h2 := Lib.hid (fun V => ref_Modulus V)
  have h3 := Lib.hid (fun u v V (hu : IsN V u a) (hv : IsN V v fP) => restN (k := 256) V hu ha (by omega) (hv.toV P_big) (Nat.lt_trans (by omega) fP_pos) P_mul_big)
  have h4 := Lib.hid (fun u V (hu : IsN V u (a % fP)) => ref_feOf V (hu.toV (lt_big (Nat.lt_trans lt_P P_lt) (by omega))))
  obtain ⟨r, hr⟩ : ∃ r, a % fP = r := ⟨_, rfl⟩
  rw [hr] at h3 h4 ⊢
  obtain ⟨p, hp⟩ : ∃ r, fP = r := ⟨_, rfl⟩
  rw [hp] at h2 h3
  clear hr hp ha
  have hcr := arrK_cells .i64 16 (dgt r)
  have hcz := arrK_cells .i64 16 fun _ => 0
  unfold numV at h1 ⊢
  unfold feV at h4 ⊢
  have hL0 : Below w.heap.size w ((w.alloc (Obj.cells (arrK .u64 4 (wd a)) 24)).alloc (Obj.cells (arrK .i64 16 fun _ => 0) 26)) := by go_grown
  have hA0 : At ((w.alloc (Obj.cells (arrK .u64 4 (wd a)) 24)).alloc (Obj.cells (arrK .i64 16 fun _ => 0) 26)) w.heap.size .u64 4 (wd a) := (At.new _ rfl).old _
  have hR0 : Row ((w.alloc (Obj.cells (arrK .u64 4 (wd a)) 24)).alloc (Obj.cells (arrK .i64 16 fun _ => 0) 26)) (w.heap.size + 1) 16 := (At.new (k := .i64) (f := fun _ => 0) _ (by simp)).row
  have hL := Lib.hid hL0
  have hR := Lib.hid hR0
  have hA := Lib.hid hA0
  clear hL0 hR0 hA0
  go_enter Try.func12, Try.ntmps12
  go_upto_region 1 with (fail)
  generalize (w.alloc _).alloc _ = W0 at *
  have hr1 := hA.out.row
  have hr2 := hA.out.eq
  go_wp2_with fail
  refine (h1.out _).mono ?_
  rintro e w2 ⟨u, rfl, hu, hb⟩
  have hU := Lib.hid hu
  replace hR := Lib.hid (row_below hR.out hb hR.out.lt)
  replace hL := Lib.hid (below_step hb hL.out (Nat.le_refl _))
  clear hr1 hr2 hA hb hu h1
  dsimp only
  go_wp2_with fail
  refine (h2.out _).mono ?_
  rintro e w3 ⟨v, rfl, hv, hb⟩
  have hV := Lib.hid hv
  replace hU := Lib.hid (hU.out.step hb)
  replace hR := Lib.hid (row_below hR.out hb hR.out.lt)
  replace hL := Lib.hid (below_step hb hL.out (Nat.le_refl _))
  clear hb hv h2
  dsimp only
  go_wp2_with fail
  refine (h3.out _ _ _ hU.out hV.out).mono ?_
  rintro e w4 ⟨x, rfl, hx, hb⟩
  have hX := Lib.hid hx
  replace hR := Lib.hid (row_below hR.out hb hR.out.lt)
  replace hL := Lib.hid (below_step hb hL.out (Nat.le_refl _))
  clear hb hx h3 hU hV
  dsimp only
  go_wp2_with fail
  refine (h4.out _ _ hX.out).mono ?_
  rintro e w5 ⟨rfl, hb⟩
  have hR2 := row_below hR.out hb hR.out.lt
  have hL2 := Lib.hid (below_step hb hL.out (Nat.le_refl _))
  clear hb hX h4 hR hL
  dsimp only
  go_wp2_with fail
  exact ret_stored (p := 2) (ty := 26) (g := w.heap.size + 1) (n := 16) (c := arrK .i64 16 (dgt r)) rfl Try.underlying26 rfl (by kernel_rfl) rfl hR2 hcr.1 rfl ⟨rfl, below_setRow hL2.out (by omega)⟩
/-- What To holds behind s bits. -/
def toS (a n s : Nat) : Nat := a ^ (n % 2 ^ s) % fP
theorem toS_start (a n : Nat) : toS a n 0 = 1 := by
  unfold toS
  rw [Nat.pow_zero, Nat.mod_one, Nat.pow_zero]
  decide +kernel
theorem toS_end {a n : Nat} (hn : n < 2 ^ 256) : toS a n 256 = a ^ n % fP := by unfold toS; rw [Nat.mod_eq_of_lt hn]
theorem toS_lt (a n s : Nat) : toS a n s < 2 ^ 256 := Nat.lt_trans lt_P P_lt
theorem toS_zero {a n s : Nat} (h : n / 2 ^ s % 2 = 0) : toS a n (s + 1) = toS a n s := by
  unfold toS
  rw [Nat.pow_succ, Nat.mod_mul, h, Nat.mul_zero, Nat.add_zero]
theorem toS_one {a n s v : Nat} (h : n / 2 ^ s % 2 = 1) (hv : v % fP = a ^ 2 ^ s % fP) : toS a n s * v % fP = toS a n (s + 1) := by
  unfold toS
  rw [Nat.pow_succ, Nat.mod_mul, h, Nat.mul_one, Nat.mul_mod, hv, ← Nat.mul_mod, Nat.mod_mul_mod, ← Nat.pow_add]
theorem sq_step {a s v : Nat} (hv : v % fP = a ^ 2 ^ s % fP) : v * v % fP % fP = a ^ 2 ^ (s + 1) % fP := by
  rw [Nat.mod_mod, Nat.mul_mod, hv, ← Nat.mul_mod, ← Nat.pow_add, Nat.pow_succ, Nat.mul_two]
theorem fe_To (a n : Nat) (u : Value) (w : World) (ha : a < 2 ^ 256) (hn : n < 2 ^ 256) (hu : IsV w u n) : Calls Try.prog 99 #[feV a, u] w fun e w' => e = .returned (feV (a ^ n % fP)) ∧ Below w.heap.size w w' := by
  have hal := Lib.hid ha
  have h1 := Lib.hid (fun V => ref_small 1 V (by omega))
  have h2 := Lib.hid (fun V (h : Below w.heap.size w V) => bitsN 256 V (by omega) (hu.step h))
  have hBy := Lib.hid (fun x y V (hx : x < 2 ^ 256) (hy : y < 2 ^ 256) => fe_By x y V hx hy)
  have hlow := Lib.hid (fun x => Nat.lt_trans (lt_P (a := x)) P_lt)
  have hts := Lib.hid (toS_start a n)
  have hte := Lib.hid (toS_end (a := a) hn)
  have htl := Lib.hid (toS_lt a n)
  have ht0 := Lib.hid (fun s (h : n / 2 ^ s % 2 = 0) => toS_zero (a := a) h)
  have ht1 := Lib.hid (fun s v (h : n / 2 ^ s % 2 = 1) (hv : v % fP = a ^ 2 ^ s % fP) => toS_one h hv)
  have hsq := Lib.hid (fun s v (hv : v % fP = a ^ 2 ^ s % fP) => sq_step hv)
  have hv0 := Lib.hid (show a % fP = a ^ 2 ^ 0 % fP by rw [Nat.pow_zero, Nat.pow_one])
  obtain ⟨B, hB⟩ : ∃ B, (fun i => n / 2 ^ i % 2) = B := ⟨_, rfl⟩
  have hBi : ∀ i, n / 2 ^ i % 2 = B i := fun i => by rw [← hB]
  have hB01 : ∀ i, B i = 0 ∨ B i = 1 := fun i => by rw [← hBi]; omega
  obtain ⟨S, hS⟩ : ∃ S, (fun s => a ^ 2 ^ s % fP) = S := ⟨_, rfl⟩
  have hSi : ∀ i, a ^ 2 ^ i % fP = S i := fun i => by rw [← hS]
  simp only [hBi] at ht0 ht1
  simp only [hSi] at ht1 hsq hv0
  unfold BitsR at h2
  rw [hB] at h2
  obtain ⟨r, hr⟩ : ∃ r, a ^ n % fP = r := ⟨_, rfl⟩
  rw [hr] at hte ⊢
  obtain ⟨F, hF⟩ : ∃ F, toS a n = F := ⟨_, rfl⟩
  rw [hF] at hts hte htl ht0 ht1
  obtain ⟨p, hp⟩ : ∃ p, fP = p := ⟨_, rfl⟩
  rw [hp] at hBy hlow ht1 hsq hv0
  replace hB01 := Lib.hid hB01
  clear hp hF hr hB hBi hS hSi hu hn ha
  have hcz := arrK_cells .i64 16 fun _ => 0
  have hc1 := arrK_cells .i64 16 (dgt 1)
  unfold feV at h1 hBy ⊢
  have hL0 : Below w.heap.size w ((w.alloc (Obj.cells (arrK .i64 16 (dgt a)) 26)).alloc (Obj.cells (arrK .i64 16 fun _ => 0) 26)) := by go_grown
  have hA0 : At ((w.alloc (Obj.cells (arrK .i64 16 (dgt a)) 26)).alloc (Obj.cells (arrK .i64 16 fun _ => 0) 26)) w.heap.size .i64 16 (dgt a) := (At.new _ rfl).old _
  have hR0 : Row ((w.alloc (Obj.cells (arrK .i64 16 (dgt a)) 26)).alloc (Obj.cells (arrK .i64 16 fun _ => 0) 26)) (w.heap.size + 1) 16 := (At.new (k := .i64) (f := fun _ => 0) _ (by simp)).row
  have hL := Lib.hid hL0
  have hR := Lib.hid hR0
  have hA := Lib.hid hA0
  clear hL0 hR0 hA0
  go_enter Try.func99, Try.ntmps99
  go_upto_region 1 with (fail)
  generalize (w.alloc _).alloc _ = W0 at *
  go_wp2_with fail
  refine (h1.out _).mono ?_
  rintro e w2 ⟨rfl, hb⟩
  have hA2 := hA.out.step hb
  have hR2 := row_below hR.out hb hR.out.lt
  have hL2 := below_step hb hL.out (Nat.le_refl _)
  have hlt : w.heap.size + 1 < w2.heap.size := hR2.lt
  clear hA hR hL hb h1
  have hA := Lib.hid (hA2.old (Obj.cells (arrK .i64 16 (dgt 1)) 26))
  have hR := Lib.hid ((row_old (o := Obj.cells (arrK .i64 16 (dgt 1)) 26) hR2.lt).2 hR2)
  have hL := Lib.hid (Below.trans hL2 ((below_alloc w2 (Obj.cells (arrK .i64 16 (dgt 1)) 26)).mono hL2.size))
  have hX := Lib.hid (At.new (w := w2) (k := .i64) (m := 16) (f := dgt 1) 26 rfl)
  clear hA2 hR2 hL2
  dsimp only
  go_upto_region 2 with (fail)
  obtain ⟨g, hg⟩ : ∃ g, w2.heap.size = g := ⟨_, rfl⟩
  rw [hg] at hX hlt ⊢
  clear hg
  generalize w2.alloc _ = W1 at *
  have h2' := Lib.hid (h2.out W1 hL.out)
  clear h2
  go_wp2_with fail
  refine h2'.out.mono ?_
  rintro e w3 ⟨gb, rfl, hrow, heq, hgb, hb⟩
  have hlt2 : g < W1.heap.size := hX.out.lt
  replace hA := Lib.hid (hA.out.step hb)
  replace hX := Lib.hid (hX.out.step hb)
  replace hR := Lib.hid (row_below hR.out hb hR.out.lt)
  replace hL := Lib.hid (below_step hb hL.out (Nat.le_refl _))
  have hY := Lib.hid (show At w3 gb .i64 256 B from ⟨hrow, heq⟩)
  rw [← hts.out] at hX
  clear hrow heq hb h2'
  dsimp only
  go_wp2_with fail
  go_loopw [12] (fun i wr => ∃ (s v : Nat), i = .int .i64 s ∧ s ≤ 256 ∧ Hid (v < 2 ^ 256) ∧ Hid (v % p = S s) ∧ Hid (At wr w.heap.size .i64 16 (dgt v)) ∧ Hid (Row wr (w.heap.size + 1) 16) ∧ Hid (At wr g .i64 16 (dgt (F s))) ∧ Hid (At wr gb .i64 256 B) ∧ Hid (Below w.heap.size w wr)) (fun i _ => 256 - (intOf i).toNat)
  case atStart => exact ⟨0, a, rfl, by omega, hal, hv0, hA, hR, hX, hY, hL⟩
  case round =>
    clear hA hR hX hY hL hal hv0 hts
    obtain ⟨s, v, rfl, hs, hvl, hvS, hA, hR, hX, hY, hL⟩ := hrel
    by_cases h256 : s = 256
    · subst h256
      rw [hte.out] at hX
      rw [show ((256 : Nat) : Int) = 256 from rfl]
      have hr1 := hX.out.row
      have hr2 := hX.out.eq
      have hr3 := hR.out
      have hcr := arrK_cells .i64 16 (dgt r)
      clear hBy ht0 ht1 hsq
      go_wp2_with fail
      exact ret_stored (p := 4) (ty := 26) (g := w.heap.size + 1) (n := 16) (c := arrK .i64 16 (dgt r)) rfl Try.underlying26 rfl (by kernel_rfl) rfl hr3 hcr.1 rfl ⟨rfl, below_setRow hL.out (by omega)⟩
    · have hs256 : (s : Int) < 256 := by omega
      have cy := hY.out.cell (i := s) (by omega)
      have hB1 := Lib.hid (fun V => hBy.out (F s) v V (htl.out s) hvl.out)
      have hB2 := Lib.hid (fun V => hBy.out v v V hvl.out hvl.out)
      have hq := Lib.hid (hsq.out s v hvS.out)
      have hz0 := Lib.hid (ht0.out s)
      have hz1 := Lib.hid (fun h => ht1.out s v h hvS.out)
      have hql := Lib.hid (hlow.out (v * v))
      have hb01 := hB01.out s
      obtain ⟨q, hq'⟩ : ∃ q, v * v % p = q := ⟨_, rfl⟩
      rw [hq'] at hB2 hq hql
      obtain ⟨bt, hbt⟩ : ∃ q, B s = q := ⟨_, rfl⟩
      rw [hbt] at cy hz0 hz1 hb01
      clear hq' hbt hBy ht0 ht1 hsq hte hvl hvS
      have hne1 : w.heap.size ≠ g := by omega
      have hne2 : w.heap.size + 1 ≠ g := by omega
      have hne3 : gb ≠ g := by omega
      have hne4 : w.heap.size + 1 ≠ w.heap.size := by omega
      have hne5 : g ≠ w.heap.size := by omega
      have hne6 : gb ≠ w.heap.size := by omega
      have hlog : w.heap.size ≤ g := by omega
      rcases hb01 with rfl | rfl
      · have hF := hz0.out rfl
        rw [← hF] at hX
        rw [show ((0 : Nat) : Int) = 0 from rfl] at cy
        have hr1 := hA.out.row
        have hr2 := hA.out.eq
        clear hF hz0 hz1 hB1
        go_wp2_with fail
        refine (hB2.out _).mono ?_
        rintro e w5 ⟨rfl, hb⟩
        have ha5 := row_below hA.out.row hb hA.out.lt
        have hA6 := Lib.hid (At.put (k := .i64) (f := dgt q) ha5)
        have hX6 := Lib.hid ((hX.out.step hb).far (c := arrK .i64 16 (dgt q)) hne5)
        have hY6 := Lib.hid ((hY.out.step hb).far (c := arrK .i64 16 (dgt q)) hne6)
        have hR6 := Lib.hid ((row_setRow_far (c' := arrK .i64 16 (dgt q)) hne4).2 (row_below hR.out hb hR.out.lt))
        have hL6 := Lib.hid (below_setRow (c := arrK .i64 16 (dgt q)) (below_step hb hL.out (Nat.le_refl _)) (Nat.le_refl _))
        have hcq := arrK_cells .i64 16 (dgt q)
        clear hr1 hr2 hb hA hX hY hR hL hB2 cy
        dsimp only
        go_wp2_with fail
        go_roundw
        case rel => exact ⟨s + 1, q, by go_num, by omega, hql, hq, hA6, hR6, hX6, hY6, hL6⟩
        case measure => simp [intOf]; omega
      · have hF := Lib.hid (hz1.out rfl)
        rw [show ((1 : Nat) : Int) = 1 from rfl] at cy
        rw [hF.out] at hB1
        have hr1 := hA.out.row
        have hr2 := hA.out.eq
        have hr3 := hX.out.row
        have hr4 := hX.out.eq
        clear hF hz0 hz1
        go_wp2_with fail
        refine (hB1.out _).mono ?_
        rintro e w4 ⟨rfl, hb⟩
        have ha4 := row_below hX.out.row hb hX.out.lt
        have hX4 := Lib.hid (At.put (k := .i64) (f := dgt (F (s + 1))) ha4)
        have hA4 := Lib.hid ((hA.out.step hb).far (c := arrK .i64 16 (dgt (F (s + 1)))) hne1)
        have hY4 := Lib.hid ((hY.out.step hb).far (c := arrK .i64 16 (dgt (F (s + 1)))) hne3)
        have hR4 := Lib.hid ((row_setRow_far (c' := arrK .i64 16 (dgt (F (s + 1)))) hne2).2 (row_below hR.out hb hR.out.lt))
        have hL4 := Lib.hid (below_setRow (c := arrK .i64 16 (dgt (F (s + 1)))) (below_step hb hL.out (Nat.le_refl _)) hlog)
        have hcq4 := arrK_cells .i64 16 (dgt (F (s + 1)))
        clear hr1 hr2 hr3 hr4 hb hA hX hY hR hL hB1 cy
        have hr1 := hA4.out.row
        have hr2 := hA4.out.eq
        dsimp only
        go_wp2_with fail
        refine (hB2.out _).mono ?_
        rintro e w5 ⟨rfl, hb⟩
        have ha5 := row_below hA4.out.row hb hA4.out.lt
        have hA6 := Lib.hid (At.put (k := .i64) (f := dgt q) ha5)
        have hX6 := Lib.hid ((hX4.out.step hb).far (c := arrK .i64 16 (dgt q)) hne5)
        have hY6 := Lib.hid ((hY4.out.step hb).far (c := arrK .i64 16 (dgt q)) hne6)
        have hR6 := Lib.hid ((row_setRow_far (c' := arrK .i64 16 (dgt q)) hne4).2 (row_below hR4.out hb hR4.out.lt))
        have hL6 := Lib.hid (below_setRow (c := arrK .i64 16 (dgt q)) (below_step hb hL4.out (Nat.le_refl _)) (Nat.le_refl _))
        have hcq := arrK_cells .i64 16 (dgt q)
        clear hr1 hr2 hb hA4 hX4 hY4 hR4 hL4 hB2
        dsimp only
        go_wp2_with fail
        go_roundw
        case rel => exact ⟨s + 1, q, by go_num, by omega, hql, hq, hA6, hR6, hX6, hY6, hL6⟩
        case measure => simp [intOf]; omega
def SRel.fN (m : Nat) : SRel := ⟨fun v w => IsN w v m, fun _ _ _ hb h => h.step hb⟩
def SRel.fV (m : Nat) : SRel := ⟨fun v w => IsV w v m, fun _ _ _ hb h => h.step hb⟩
theorem fe_Over (av : Nat) (w : World) (ha : av < 2 ^ 256) : Calls Try.prog 27 #[feV av] w fun e w' => e = .returned (feV (invP av)) ∧ Below w.heap.size w w' := by
  have h2 := Lib.hid (fun V => ref_Modulus V)
  have h3 := Lib.hid (fun u v V (hu : IsN V u fP) (hv : IsV V v 2) => minusN V (hu.toV P_big) hv (Nat.le_trans (by omega) (Nat.le_of_lt fP_pos)))
  have hq : fP - 2 < 2 ^ 256 := Nat.lt_of_le_of_lt (Nat.sub_le _ _) P_lt
  have hT := Lib.hid (fun u V (hu : IsN V u (fP - 2)) => fe_To av (fP - 2) u V ha hq (hu.toV (lt_big hq (by omega))))
  unfold invP
  obtain ⟨r, hr⟩ : ∃ r, av ^ (fP - 2) % fP = r := ⟨_, rfl⟩
  rw [hr] at hT ⊢
  obtain ⟨q, hq'⟩ : ∃ r, fP - 2 = r := ⟨_, rfl⟩
  rw [hq'] at h3 hT
  obtain ⟨p, hp⟩ : ∃ r, fP = r := ⟨_, rfl⟩
  rw [hp] at h2 h3
  clear hr hp hq' hq ha
  have hcr := arrK_cells .i64 16 (dgt r)
  have hcz := arrK_cells .i64 16 fun _ => 0
  unfold feV at hT ⊢
  have hL0 : Below w.heap.size w ((w.alloc (Obj.cells (arrK .i64 16 (dgt av)) 26)).alloc (Obj.cells (arrK .i64 16 fun _ => 0) 26)) := by go_grown
  have hA0 : At ((w.alloc (Obj.cells (arrK .i64 16 (dgt av)) 26)).alloc (Obj.cells (arrK .i64 16 fun _ => 0) 26)) w.heap.size .i64 16 (dgt av) := (At.new _ rfl).old _
  have hR0 : Row ((w.alloc (Obj.cells (arrK .i64 16 (dgt av)) 26)).alloc (Obj.cells (arrK .i64 16 fun _ => 0) 26)) (w.heap.size + 1) 16 := (At.new (k := .i64) (f := fun _ => 0) _ (by simp)).row
  have hL := Lib.hid hL0
  have hR := Lib.hid hR0
  have hA := Lib.hid hA0
  clear hL0 hR0 hA0
  go_enter Try.func27, Try.ntmps27
  go_upto_region 1 with (fail)
  generalize (w.alloc _).alloc _ = W0 at *
  generalize ha0 : Act.mk _ _ = a0
  have e1 : a0.tmps[1]?.getD undef = .pointer (some ⟨w.heap.size, 0, none⟩) := by rw [← ha0]; rfl
  have e2 : a0.tmps[2]?.getD undef = .pointer (some ⟨w.heap.size + 1, 0, none⟩) := by rw [← ha0]; rfl
  have hz0 : a0.tmps.size = 8 := by rw [← ha0]; rfl
  have hha0 := Lib.hid ha0
  clear ha0
  refine wp_region_tail (fun jx_ => match jx_ with | 0 => SRel.is (.agg (arrK .i64 16 (dgt av))) | 1 => SRel.fN p | 2 => SRel.fV 2 | 3 => SRel.fN q | 4 => SRel.is (.agg (arrK .i64 16 (dgt r))) | 5 => SRel.any | _ => SRel.any) 5 (by kernel_rfl) (by kernel_rfl) (by kernel_rfl) (slotsOk_of hz0 (by kernel_rfl)) (by kernel_rfl) ⟨?_, ?_, ?_, ?_, ?_, ?_, trivial⟩ (of_decide_eq_true (by kernel_rfl))
  · rw [if_neg (by decide)]
    refine calmT_step rfl fun a ω κ hb hu hc hK => ?_
    have h1 : a.tmps[1]?.getD undef = .pointer (some ⟨w.heap.size, 0, none⟩) := (hu 1 rfl).trans e1
    have hk := Lib.hid (fun w1 (h : Below ω.heap.size ω w1) => hK (.agg (arrK .i64 16 (dgt av))) w1 rfl h)
    clear hK hu hc
    have hr1 := (hA.out.step hb).row
    have hr2 := (hA.out.step hb).eq
    go_simp
    exact hk.out _ (Below.refl _ _)
  · rw [if_neg (by decide)]
    refine calmT_step rfl fun a ω κ hb hu hc hK => ?_
    have hk := Lib.hid (fun v w1 (hv : (SRel.fN p).p v w1) (h : Below ω.heap.size ω w1) => hK v w1 hv h)
    clear hK hu hc
    go_simp
    go_at_call 17
    refine (h2.out _).mono ?_
    rintro e w1 ⟨u, rfl, hu1, hb1⟩
    exact hk.out _ _ hu1 hb1
  · rw [if_neg (by decide)]
    refine calmT_step rfl fun a ω κ hb hu hc hK => ?_
    have hk := Lib.hid (fun v w1 (hv : (SRel.fV 2).p v w1) (h : Below ω.heap.size ω w1) => hK v w1 hv h)
    clear hK hu hc
    go_simp
    exact hk.out _ _ (IsV.lit ω 3 (d := 2) (by omega)) (below_alloc _ _)
  · rw [if_neg (by decide)]
    refine calmT_step rfl fun a ω κ hb hu hc hK => ?_
    have h4 : (SRel.fN p).p (a.tmps[4]?.getD undef) ω := hc 1 4 rfl rfl
    have h5 : (SRel.fV 2).p (a.tmps[5]?.getD undef) ω := hc 2 5 rfl rfl
    have hk := Lib.hid (fun v w1 (hv : (SRel.fN q).p v w1) (h : Below ω.heap.size ω w1) => hK v w1 hv h)
    clear hK hu hc
    go_simp
    go_at_call 71
    refine (h3.out _ _ _ h4 h5).mono ?_
    rintro e w1 ⟨u, rfl, hu1, hb1⟩
    exact hk.out _ _ hu1.toN hb1
  · rw [if_neg (by decide)]
    refine calmT_step rfl fun a ω κ hb hu hc hK => ?_
    have h3 : a.tmps[3]?.getD undef = .agg (arrK .i64 16 (dgt av)) := hc 0 3 rfl rfl
    have h6 : (SRel.fN q).p (a.tmps[6]?.getD undef) ω := hc 3 6 rfl rfl
    have hk := Lib.hid (fun w1 (h : Below ω.heap.size ω w1) => hK (.agg (arrK .i64 16 (dgt r))) w1 rfl h)
    clear hK hu hc
    go_simp
    go_at_call 99
    refine (hT.out _ _ h6).mono ?_
    rintro e w1 ⟨rfl, hb1⟩
    exact hk.out _ hb1
  · rw [if_pos rfl]
    refine last_of rfl fun aa ω hb hu hsz hdf hc => ?_
    have h2 : aa.tmps[2]?.getD undef = .pointer (some ⟨w.heap.size + 1, 0, none⟩) := (hu 2 rfl).trans e2
    have h7 : aa.tmps[7]?.getD undef = .agg (arrK .i64 16 (dgt r)) := hc 4 7 (by decide) rfl
    have hHz := Lib.hid (And.intro hu (And.intro hsz hdf))
    clear hc hu hsz hdf hz0
    have hr1 := row_below hR.out hb hR.out.lt
    have hL2 := Lib.hid (below_step hb hL.out (Nat.le_refl _))
    go_simp
    have ha0 := hha0.out
    subst ha0
    have he := act_patchT (n := 8) 5 [false, false, false, true, true, true, true, true] rfl (by kernel_rfl) hHz.out.1 hHz.out.2.1 hHz.out.2.2
    simp only [patch, cond_true, cond_false, Nat.reduceAdd] at he
    clear hHz hha0 e1 e2
    rw [he]
    clear he
    generalize aa.tmps[3]?.getD undef = x3 at *
    generalize aa.tmps[4]?.getD undef = x4 at *
    generalize aa.tmps[5]?.getD undef = x5 at *
    generalize aa.tmps[6]?.getD undef = x6 at *
    generalize aa.tmps[7]?.getD undef = x7 at *
    go_wp2_with fail
    exact ret_stored (p := 2) (ty := 26) (g := w.heap.size + 1) (n := 16) (c := arrK .i64 16 (dgt r)) rfl Try.underlying26 rfl (by kernel_rfl) rfl hr1 hcr.1 rfl ⟨rfl, below_setRow hL2.out (by omega)⟩
end Go.Proofs.Ytodcjeaannfbnaa
namespace Go.Proofs.Ytodcjeaannfbnaa
open Go.ChangeShapes Go.WideShapes Go.ChangeAt Go.RowKit
set_option maxHeartbeats 2000000
set_option maxRecDepth 100000
theorem load_rp {w : World} {dst : Option Tmp} {x : Operand} {tt : TypeId} {pos : String} {af : Array Edge} {gd : Option (Nat × Bool)} {a : Act} {K : Act → World → Prop} {Q : Exit → Act → World → Prop}
    (hv : IsHead (a.eval x)) (h : Row w (blkOf (a.eval x)) 48) : Oper.wp Try.prog ⟨dst, .load 48 x, tt, pos, af, gd⟩ a w K Q ↔ K (a.put dst (.agg (rowAt w (blkOf (a.eval x))))) w :=
  wp_load_whole Try.underlying48 rfl (by kernel_rfl) hv h
theorem store_rp {w : World} {dst : Option Tmp} {x y : Operand} {tt : TypeId} {pos : String} {af : Array Edge} {gd : Option (Nat × Bool)} {a : Act} {K : Act → World → Prop} {Q : Exit → Act → World → Prop}
    (hv : IsHead (a.eval x)) (h : Row w (blkOf (a.eval x)) 48) (hx : IsAgg (a.eval y) 48) : Oper.wp Try.prog ⟨dst, .store 48 x y, tt, pos, af, gd⟩ a w K Q ↔ K (a.put dst undef) (w.setRow (blkOf (a.eval x)) (cellsV (a.eval y))) :=
  wp_store_whole (by kernel_rfl) hv h hx
theorem execl_rp {w : World} {dst : Option Tmp} {x : Operand} {tt : TypeId} {pos : String} {af : Array Edge} {gd : Option (Nat × Bool)} {ρ : Operand → Value}
    (hv : IsHead (ρ x)) (h : Row w (blkOf (ρ x)) 48) : (execOp ρ ⟨dst, .load 48 x, tt, pos, af, gd⟩).run Try.prog w = .ok (.value (.agg (rowAt w (blkOf (ρ x))))) w :=
  exec_load_whole Try.underlying48 rfl (by kernel_rfl) hv h
theorem execs_rp {w : World} {dst : Option Tmp} {x y : Operand} {tt : TypeId} {pos : String} {af : Array Edge} {gd : Option (Nat × Bool)} {ρ : Operand → Value}
    (hv : IsHead (ρ x)) (h : Row w (blkOf (ρ x)) 48) (hx : IsAgg (ρ y) 48) : (execOp ρ ⟨dst, .store 48 x y, tt, pos, af, gd⟩).run Try.prog w = .ok .skip (w.setRow (blkOf (ρ x)) (cellsV (ρ y))) :=
  exec_store_whole (by kernel_rfl) hv h hx

theorem load_feP {w : World} {dst : Option Tmp} {x : Operand} {tt : TypeId} {pos : String} {af : Array Edge} {gd : Option (Nat × Bool)} {a : Act} {K : Act → World → Prop} {Q : Exit → Act → World → Prop} (h : LdOk w 16 (a.eval x)) : Oper.wp Try.prog ⟨dst, .load 26 x, tt, pos, af, gd⟩ a w K Q ↔ K (a.put dst (.agg (ldC w 16 (a.eval x)))) w := wp_load_el Try.underlying26 rfl (by kernel_rfl) h
def cat3 (f0 f1 f2 : Nat → Nat) (i : Nat) : Nat := if i < 16 then f0 i else if i < 32 then f1 (i - 16) else f2 (i - 32)
section
variable {w : World} {g : Nat} {f0 f1 f2 : Nat → Nat}
theorem rp_0 (h : At w g .i64 48 (cat3 f0 f1 f2)) : LdOk w 16 (.pointer (some ⟨g, 0, none⟩)) ∧ ldC w 16 (.pointer (some ⟨g, 0, none⟩)) = arrK .i64 16 f0 := by
  refine ⟨(h.fld (by omega)).1, (h.fld (by omega)).2.trans (arrK_congr fun i hi => ?_)⟩
  unfold cat3; rw [if_pos (by omega), Nat.zero_add]
theorem rp_1 (h : At w g .i64 48 (cat3 f0 f1 f2)) : LdOk w 16 (.pointer (some ⟨g, 16, none⟩)) ∧ ldC w 16 (.pointer (some ⟨g, 16, none⟩)) = arrK .i64 16 f1 := by
  refine ⟨(h.fld (by omega)).1, (h.fld (by omega)).2.trans (arrK_congr fun i hi => ?_)⟩
  unfold cat3; rw [if_neg (by omega), if_pos (by omega), Nat.add_sub_cancel_left]
theorem rp_2 (h : At w g .i64 48 (cat3 f0 f1 f2)) : LdOk w 16 (.pointer (some ⟨g, 32, none⟩)) ∧ ldC w 16 (.pointer (some ⟨g, 32, none⟩)) = arrK .i64 16 f2 := by
  refine ⟨(h.fld (by omega)).1, (h.fld (by omega)).2.trans (arrK_congr fun i hi => ?_)⟩
  unfold cat3; rw [if_neg (by omega), if_neg (by omega), Nat.add_sub_cancel_left]
end
def rpV (x y z : Nat) : Value := .agg (arrK .i64 48 (cat3 (dgt x) (dgt y) (dgt z)))
theorem build_rp (f0 f1 f2 : Nat → Nat) (w : World) : (Instr.build 48 #[(0, .agg (arrK .i64 16 f0)), (1, .agg (arrK .i64 16 f1)), (2, .agg (arrK .i64 16 f2))]).run Try.prog w = .ok (.agg (arrK .i64 48 (cat3 f0 f1 f2))) w := run_build w _ _ _ (by kernel_rfl)
theorem zeroRp : #[Value.int IntKind.i64 0, Value.int IntKind.i64 0, Value.int IntKind.i64 0, Value.int IntKind.i64 0, Value.int IntKind.i64 0, Value.int IntKind.i64 0, Value.int IntKind.i64 0, Value.int IntKind.i64 0, Value.int IntKind.i64 0, Value.int IntKind.i64 0, Value.int IntKind.i64 0, Value.int IntKind.i64 0, Value.int IntKind.i64 0, Value.int IntKind.i64 0, Value.int IntKind.i64 0, Value.int IntKind.i64 0, Value.int IntKind.i64 0, Value.int IntKind.i64 0, Value.int IntKind.i64 0, Value.int IntKind.i64 0, Value.int IntKind.i64 0, Value.int IntKind.i64 0, Value.int IntKind.i64 0, Value.int IntKind.i64 0, Value.int IntKind.i64 0, Value.int IntKind.i64 0, Value.int IntKind.i64 0, Value.int IntKind.i64 0, Value.int IntKind.i64 0, Value.int IntKind.i64 0, Value.int IntKind.i64 0, Value.int IntKind.i64 0, Value.int IntKind.i64 0, Value.int IntKind.i64 0, Value.int IntKind.i64 0, Value.int IntKind.i64 0, Value.int IntKind.i64 0, Value.int IntKind.i64 0, Value.int IntKind.i64 0, Value.int IntKind.i64 0, Value.int IntKind.i64 0, Value.int IntKind.i64 0, Value.int IntKind.i64 0, Value.int IntKind.i64 0, Value.int IntKind.i64 0, Value.int IntKind.i64 0, Value.int IntKind.i64 0, Value.int IntKind.i64 0] = arrK .i64 48 (cat3 (fun _ => 0) (fun _ => 0) (fun _ => 0)) := by kernel_rfl
section
variable {P : Program} {ops : Array Oper} {rest : List Oper} {o : Oper} {a : Act} {w : World} {K : Act → World → Prop} {Q : Exit → Act → World → Prop} {t : TypeId} {i0 i1 i2 : Nat} {x0 x1 x2 : Operand} {u v0 v1 v2 : Value}
theorem wp_bldC (ho : o.op = .build t #[(i0, x0), (i1, x1), (i2, x2)]) (h0 : a.eval x0 = v0) (h1 : a.eval x1 = v1) (h2 : a.eval x2 = v2) (hr : (Instr.build t #[(i0, v0), (i1, v1), (i2, v2)]).run P w = .ok u w) (h : K (a.put o.dst u) w) : Oper.wp P o a w K Q := by
  subst h0 h1 h2
  obtain ⟨dst, op, tt, pos, af, gd⟩ := o
  subst ho
  unfold Oper.wp execOp
  simp only [List.map_toArray, List.map_cons, List.map_nil, Sem.run_bind, hr, Result.andThen_ok]
  exact h
theorem wpList_bldC (hgd : o.guard = none) (ho : o.op = .build t #[(i0, x0), (i1, x1), (i2, x2)]) (h0 : a.eval x0 = v0) (h1 : a.eval x1 = v1) (h2 : a.eval x2 = v2) (hr : (Instr.build t #[(i0, v0), (i1, v1), (i2, v2)]).run P w = .ok u w) (h : wpList P ops Q rest (a.put o.dst u) w) : wpList P ops Q (o :: rest) a w :=
  wpList_step fun K hK => by
    have hw : Region.wanted o (yielded ops a.tmps) = true := by simp [Region.wanted, hgd]
    rw [if_pos hw]
    exact wp_bldC ho h0 h1 h2 hr (hK _ _ h)
end
section
variable {P : Program} {ops : Array Oper} {rest : List Oper} {o : Oper} {a : Act} {w : World} {Q : Exit → Act → World → Prop} {t : TypeId} {parts : Array (Nat × Operand)} {vs : Array (Nat × Value)} {u : Value}
theorem wpList_bldN (hgd : o.guard = none) (ho : o.op = .build t parts) (hv : (parts.map fun p => (p.1, a.eval p.2)) = vs) (hr : (Instr.build t vs).run P w = .ok u w) (h : wpList P ops Q rest (a.put o.dst u) w) : wpList P ops Q (o :: rest) a w :=
  wpList_step fun K hK => by
    have hw : Region.wanted o (yielded ops a.tmps) = true := by simp [Region.wanted, hgd]
    rw [if_pos hw]
    subst hv
    obtain ⟨dst, op, tt, pos, af, gd⟩ := o
    subst ho
    unfold Oper.wp execOp
    simp only [Sem.run_bind, hr, Result.andThen_ok]
    exact hK _ _ h
end
theorem build_d (w : World) : (Instr.build 26 #[(0, Value.int IntKind.i64 30883), (1, Value.int IntKind.i64 4953), (2, Value.int IntKind.i64 19914), (3, Value.int IntKind.i64 30187), (4, Value.int IntKind.i64 55467), (5, Value.int IntKind.i64 16705), (6, Value.int IntKind.i64 2637), (7, Value.int IntKind.i64 112), (8, Value.int IntKind.i64 59544), (9, Value.int IntKind.i64 30585), (10, Value.int IntKind.i64 16505), (11, Value.int IntKind.i64 36039), (12, Value.int IntKind.i64 65139), (13, Value.int IntKind.i64 11119), (14, Value.int IntKind.i64 27886), (15, Value.int IntKind.i64 20995)]).run Try.prog w = .ok (.agg (arrK .i64 16 (dgt dN))) w := run_build w _ _ _ (by kernel_rfl)
attribute [local go_sem ↓] load_fe store_fe
attribute [local go_sem] isHead_mk blkOf_mk isAgg_mk cellsV_mk row_drew rowAt_drew row_new_cells row_old rowAt_new rowAt_old setRow_new zeroFe
theorem ref_dOf (w : World) : Calls Try.prog 105 #[] w fun e w' => e = .returned (feV dN) ∧ Below w.heap.size w w' := by
  unfold feV
  have hl := Lib.hid (fun V => build_d V)
  obtain ⟨F, hF⟩ : ∃ F, dgt dN = F := ⟨_, rfl⟩
  rw [hF] at hl ⊢
  clear hF
  have hcz := arrK_cells .i64 16 fun _ => 0
  have hcp := arrK_cells .i64 16 F
  have hL0 := below_alloc w (Obj.cells (arrK .i64 16 fun _ => 0) 26)
  have hR0 : Row (w.alloc (Obj.cells (arrK .i64 16 fun _ => 0) 26)) w.heap.size 16 := (row_new rfl).2 hcz.1
  go_enter Try.func105, Try.ntmps105
  go_upto_region 1 with (fail)
  generalize w.alloc _ = W0 at *
  go_wp2_with (refine wpList_bldN (vs := #[(0, Value.int IntKind.i64 30883), (1, Value.int IntKind.i64 4953), (2, Value.int IntKind.i64 19914), (3, Value.int IntKind.i64 30187), (4, Value.int IntKind.i64 55467), (5, Value.int IntKind.i64 16705), (6, Value.int IntKind.i64 2637), (7, Value.int IntKind.i64 112), (8, Value.int IntKind.i64 59544), (9, Value.int IntKind.i64 30585), (10, Value.int IntKind.i64 16505), (11, Value.int IntKind.i64 36039), (12, Value.int IntKind.i64 65139), (13, Value.int IntKind.i64 11119), (14, Value.int IntKind.i64 27886), (15, Value.int IntKind.i64 20995)]) rfl rfl (by simp [Act.eval]) (hl.out _) ?_)
  exact ret_stored (p := 0) (ty := 26) (g := w.heap.size) (n := 16) (c := arrK .i64 16 F) rfl Try.underlying26 rfl (by kernel_rfl) rfl hR0 hcp.1 rfl ⟨rfl, below_setRow hL0 (Nat.le_refl _)⟩
end Go.Proofs.Ytodcjeaannfbnaa
namespace Go.Proofs.Ytodcjeaannfbnaa
open Go.ChangeShapes Go.WideShapes Go.ChangeAt Go.RowKit
set_option maxHeartbeats 2000000
set_option maxRecDepth 100000
attribute [local go_sem ↓] load_fld load_feP load_num store_num load_fe store_fe load_pt store_pt load_rp store_rp
attribute [local go_sem] isHead_mk blkOf_mk isAgg_mk cellsV_mk row_drew rowAt_drew row_new_cells row_old rowAt_new rowAt_old setRow_new zeroNum zeroPt zeroFe zeroRp
theorem ref_PtOf (x y : Nat) (w : World) (hx : x < 2 ^ 256) (hy : y < 2 ^ 256) : Calls Try.prog 30 #[ptV x y] w fun e w' => e = .returned (rpV (x % fP) (y % fP) 1) ∧ Below w.heap.size w w' := by
  have hF1 := Lib.hid (fun V => ref_Field x V hx)
  have hF2 := Lib.hid (fun V => ref_Field y V hy)
  have h1 := Lib.hid (fun V => ref_small 1 V (by omega))
  obtain ⟨p, hp⟩ : ∃ m, x % fP = m := ⟨_, rfl⟩
  obtain ⟨q, hq⟩ : ∃ m, y % fP = m := ⟨_, rfl⟩
  rw [hp] at hF1 ⊢
  rw [hq] at hF2 ⊢
  clear hp hq hx hy
  unfold numV feV at hF1 hF2
  unfold feV at h1
  rw [show ((1 : Nat) : Int) = 1 from rfl] at h1
  unfold ptV rpV
  have hcq := arrK_cells .i64 48 (cat3 (dgt p) (dgt q) (dgt 1))
  have hcz := arrK_cells .i64 48 (cat3 (fun _ => 0) (fun _ => 0) (fun _ => 0))
  have hL0 : Below w.heap.size w ((w.alloc (Obj.cells (arrK .u64 8 (cat2 (wd x) (wd y))) 42)).alloc (Obj.cells (arrK .i64 48 (cat3 (fun _ => 0) (fun _ => 0) (fun _ => 0))) 48)) := by go_grown
  have hA0 : At ((w.alloc (Obj.cells (arrK .u64 8 (cat2 (wd x) (wd y))) 42)).alloc (Obj.cells (arrK .i64 48 (cat3 (fun _ => 0) (fun _ => 0) (fun _ => 0))) 48)) w.heap.size .u64 8 (cat2 (wd x) (wd y)) := (At.new _ rfl).old _
  have hR0 : Row ((w.alloc (Obj.cells (arrK .u64 8 (cat2 (wd x) (wd y))) 42)).alloc (Obj.cells (arrK .i64 48 (cat3 (fun _ => 0) (fun _ => 0) (fun _ => 0))) 48)) (w.heap.size + 1) 48 := (At.new (k := .i64) (f := (cat3 (fun _ => 0) (fun _ => 0) (fun _ => 0))) _ (by simp)).row
  have hL := Lib.hid hL0
  have hR := Lib.hid hR0
  have hA := Lib.hid hA0
  clear hL0 hR0 hA0
  go_enter Try.func30, Try.ntmps30
  go_upto_region 1 with (fail)
  generalize (w.alloc _).alloc _ = W0 at *
  generalize ha0 : Act.mk _ _ = a0
  have e1 : a0.tmps[1]?.getD undef = .pointer (some ⟨w.heap.size, 0, none⟩) := by rw [← ha0]; rfl
  have e2 : a0.tmps[2]?.getD undef = .pointer (some ⟨w.heap.size + 1, 0, none⟩) := by rw [← ha0]; rfl
  have hz0 : a0.tmps.size = 11 := by rw [← ha0]; rfl
  have hha0 := Lib.hid ha0
  clear ha0
  refine wp_region_one (fun jx_ => match jx_ with | 0 => some (.pointer (some ⟨w.heap.size, 0, none⟩)) | 1 => some (.agg (arrK .u64 4 (wd x))) | 2 => some (.agg (arrK .i64 16 (dgt p))) | 3 => some (.pointer (some ⟨w.heap.size, 4, none⟩)) | 4 => some (.agg (arrK .u64 4 (wd y))) | 5 => some (.agg (arrK .i64 16 (dgt q))) | 6 => some (.agg (arrK .i64 16 (dgt 1))) | 7 => some (.agg (arrK .i64 48 (cat3 (dgt p) (dgt q) (dgt 1)))) | _ => none) 8 ((w.heap.size + 1)) 48 (arrK .i64 48 (cat3 (dgt p) (dgt q) (dgt 1))) (by kernel_rfl) (by kernel_rfl) (by kernel_rfl) (slotsOk_of hz0 (by kernel_rfl)) (of_decide_eq_true (by kernel_rfl)) hR.out ⟨?_, ?_, ?_, ?_, ?_, ?_, ?_, ?_, ?_, trivial⟩ ?_
  · refine one_before (by decide) (by kernel_rfl) (calm_step rfl fun aa ω κ hb hu hc hK => ?_)
    have h1 : aa.tmps[1]?.getD undef = .pointer (some ⟨w.heap.size, 0, none⟩) := (hu 1 rfl).trans e1
    have hk := Lib.hid (fun w1 (h : Below ω.heap.size ω w1) => hK (.pointer (some ⟨w.heap.size, 0, none⟩)) w1 rfl h)
    clear hK hu hc
    go_simp
    exact hk.out _ (Below.refl _ _)
  · refine one_before (by decide) (by kernel_rfl) (calm_step rfl fun aa ω κ hb hu hc hK => ?_)
    have h3 : aa.tmps[3]?.getD undef = .pointer (some ⟨w.heap.size, 0, none⟩) := hc 0 3 rfl rfl
    have hk := Lib.hid (fun w1 (h : Below ω.heap.size ω w1) => hK (.agg (arrK .u64 4 (wd x))) w1 rfl h)
    clear hK hu hc
    have hl := pt_0 (hA.out.step hb)
    have hl1 := hl.1
    have hl2 := hl.2
    go_simp
    exact hk.out _ (Below.refl _ _)
  · refine one_before (by decide) (by kernel_rfl) (calm_step rfl fun aa ω κ hb hu hc hK => ?_)
    have h4 : aa.tmps[4]?.getD undef = .agg (arrK .u64 4 (wd x)) := hc 1 4 rfl rfl
    have hk := Lib.hid (fun w1 (h : Below ω.heap.size ω w1) => hK (.agg (arrK .i64 16 (dgt p))) w1 rfl h)
    clear hK hu hc
    go_simp
    go_at_call 12
    refine (hF1.out _).mono ?_
    rintro e w1 ⟨rfl, hb1⟩
    exact hk.out _ hb1
  · refine one_before (by decide) (by kernel_rfl) (calm_step rfl fun aa ω κ hb hu hc hK => ?_)
    have h1 : aa.tmps[1]?.getD undef = .pointer (some ⟨w.heap.size, 0, none⟩) := (hu 1 rfl).trans e1
    have hk := Lib.hid (fun w1 (h : Below ω.heap.size ω w1) => hK (.pointer (some ⟨w.heap.size, 4, none⟩)) w1 rfl h)
    clear hK hu hc
    go_simp
    exact hk.out _ (Below.refl _ _)
  · refine one_before (by decide) (by kernel_rfl) (calm_step rfl fun aa ω κ hb hu hc hK => ?_)
    have h6 : aa.tmps[6]?.getD undef = .pointer (some ⟨w.heap.size, 4, none⟩) := hc 3 6 rfl rfl
    have hk := Lib.hid (fun w1 (h : Below ω.heap.size ω w1) => hK (.agg (arrK .u64 4 (wd y))) w1 rfl h)
    clear hK hu hc
    have hl := pt_1 (hA.out.step hb)
    have hl1 := hl.1
    have hl2 := hl.2
    go_simp
    exact hk.out _ (Below.refl _ _)
  · refine one_before (by decide) (by kernel_rfl) (calm_step rfl fun aa ω κ hb hu hc hK => ?_)
    have h7 : aa.tmps[7]?.getD undef = .agg (arrK .u64 4 (wd y)) := hc 4 7 rfl rfl
    have hk := Lib.hid (fun w1 (h : Below ω.heap.size ω w1) => hK (.agg (arrK .i64 16 (dgt q))) w1 rfl h)
    clear hK hu hc
    go_simp
    go_at_call 12
    refine (hF2.out _).mono ?_
    rintro e w1 ⟨rfl, hb1⟩
    exact hk.out _ hb1
  · refine one_before (by decide) (by kernel_rfl) (calm_step rfl fun aa ω κ hb hu hc hK => ?_)
    have hk := Lib.hid (fun w1 (h : Below ω.heap.size ω w1) => hK (.agg (arrK .i64 16 (dgt 1))) w1 rfl h)
    clear hK hu hc
    go_simp
    go_at_call 89
    refine (h1.out _).mono ?_
    rintro e w1 ⟨rfl, hb1⟩
    exact hk.out _ hb1
  · refine one_before (by decide) (by kernel_rfl) (calm_step rfl fun aa ω κ hb hu hc hK => ?_)
    have h5 : aa.tmps[5]?.getD undef = .agg (arrK .i64 16 (dgt p)) := hc 2 5 rfl rfl
    have h8 : aa.tmps[8]?.getD undef = .agg (arrK .i64 16 (dgt q)) := hc 5 8 rfl rfl
    have h9 : aa.tmps[9]?.getD undef = .agg (arrK .i64 16 (dgt 1)) := hc 6 9 rfl rfl
    have hk := Lib.hid (fun w1 (h : Below ω.heap.size ω w1) => hK (.agg (arrK .i64 48 (cat3 (dgt p) (dgt q) (dgt 1)))) w1 rfl h)
    clear hK hu hc
    exact wp_bldC (v0 := .agg (arrK .i64 16 (dgt p))) (v1 := .agg (arrK .i64 16 (dgt q))) (v2 := .agg (arrK .i64 16 (dgt 1))) rfl (by go_simp) (by go_simp) (by go_simp) (build_rp _ _ _ _) (hk.out _ (Below.refl _ _))
  · refine one_q (one_write rfl rfl fun aa ω κ hb hu hc hr hK => ?_)
    have h2 : aa.tmps[2]?.getD undef = .pointer (some ⟨w.heap.size + 1, 0, none⟩) := (hu 2 rfl).trans e2
    have h10 : aa.tmps[10]?.getD undef = .agg (arrK .i64 48 (cat3 (dgt p) (dgt q) (dgt 1))) := hc 7 10 rfl rfl
    have hk := Lib.hid hK
    clear hK hu hc
    have hcc := hcq
    go_simp
    exact hk.out undef
  · intro a1 w1 hb1 hu1 hsz1 hdf1 hv1
    have ha0 := hha0.out
    subst ha0
    have he := act_patch (n := 11) [false, false, false, true, true, true, true, true, true, true, true] rfl (by kernel_rfl) hu1 hsz1 hdf1
    simp only [patch, cond_true, cond_false, Nat.reduceAdd] at he
    have hXz := (At.put (k := .i64) (f := (cat3 (dgt p) (dgt q) (dgt 1))) hR.out).below hb1 (by simpa using hR.out.lt)
    have hLz := Lib.hid (Below.trans (below_setRow (c := arrK .i64 48 (cat3 (dgt p) (dgt q) (dgt 1))) hL.out (by omega)) (hb1.mono (by simpa using hL.out.size)))
    clear hR hL hA hF1 hF2 h1
    clear hb1 hu1 hsz1 hdf1 hv1 hz0 hha0 e1 e2
    rw [he]
    clear he
    generalize a1.tmps[3]?.getD undef = x3 at *
    generalize a1.tmps[4]?.getD undef = x4 at *
    generalize a1.tmps[5]?.getD undef = x5 at *
    generalize a1.tmps[6]?.getD undef = x6 at *
    generalize a1.tmps[7]?.getD undef = x7 at *
    generalize a1.tmps[8]?.getD undef = x8 at *
    generalize a1.tmps[9]?.getD undef = x9 at *
    generalize a1.tmps[10]?.getD undef = x10 at *
    go_wp2_with fail
    refine ret_row (p := 2) (ty := 48) (g := (w.heap.size + 1)) rfl Try.underlying48 rfl (by kernel_rfl) rfl hXz.row rfl ?_
    rw [hXz.eq]
    exact ⟨rfl, hLz.out⟩
theorem build_rX (w : World) : (Instr.build 26 #[(0, Value.int IntKind.i64 54554), (1, Value.int IntKind.i64 36645), (2, Value.int IntKind.i64 11616), (3, Value.int IntKind.i64 51542), (4, Value.int IntKind.i64 42930), (5, Value.int IntKind.i64 38181), (6, Value.int IntKind.i64 51040), (7, Value.int IntKind.i64 26924), (8, Value.int IntKind.i64 56412), (9, Value.int IntKind.i64 64982), (10, Value.int IntKind.i64 57905), (11, Value.int IntKind.i64 49316), (12, Value.int IntKind.i64 21502), (13, Value.int IntKind.i64 52590), (14, Value.int IntKind.i64 14035), (15, Value.int IntKind.i64 8553)]).run Try.prog w = .ok (.agg (arrK .i64 16 (dgt bX))) w := run_build w _ _ _ (by kernel_rfl)
theorem build_rY (w : World) : (Instr.build 26 #[(0, Value.int IntKind.i64 26200), (1, Value.int IntKind.i64 26214), (2, Value.int IntKind.i64 26214), (3, Value.int IntKind.i64 26214), (4, Value.int IntKind.i64 26214), (5, Value.int IntKind.i64 26214), (6, Value.int IntKind.i64 26214), (7, Value.int IntKind.i64 26214), (8, Value.int IntKind.i64 26214), (9, Value.int IntKind.i64 26214), (10, Value.int IntKind.i64 26214), (11, Value.int IntKind.i64 26214), (12, Value.int IntKind.i64 26214), (13, Value.int IntKind.i64 26214), (14, Value.int IntKind.i64 26214), (15, Value.int IntKind.i64 26214)]).run Try.prog w = .ok (.agg (arrK .i64 16 (dgt bY))) w := run_build w _ _ _ (by kernel_rfl)
theorem ref_PtBase (w : World) : Calls Try.prog 39 #[] w fun e w' => e = .returned (rpV bX bY 1) ∧ Below w.heap.size w w' := by
  unfold rpV
  have hb1 := Lib.hid (fun V => build_rX V)
  have hb2 := Lib.hid (fun V => build_rY V)
  have h1 := Lib.hid (fun V => ref_small 1 V (by omega))
  unfold feV at h1
  rw [show ((1 : Nat) : Int) = 1 from rfl] at h1
  obtain ⟨F, hF⟩ : ∃ X, dgt bX = X := ⟨_, rfl⟩
  obtain ⟨G, hG⟩ : ∃ X, dgt bY = X := ⟨_, rfl⟩
  rw [hF] at hb1 ⊢
  rw [hG] at hb2 ⊢
  clear hF hG
  have hcz := arrK_cells .i64 48 (cat3 (fun _ => 0) (fun _ => 0) (fun _ => 0))
  have hcp := arrK_cells .i64 48 (cat3 F G (dgt 1))
  have hL := Lib.hid (below_alloc w (Obj.cells (arrK .i64 48 (cat3 (fun _ => 0) (fun _ => 0) (fun _ => 0))) 48))
  have hR := Lib.hid (show Row (w.alloc (Obj.cells (arrK .i64 48 (cat3 (fun _ => 0) (fun _ => 0) (fun _ => 0))) 48)) w.heap.size 48 from (row_new rfl).2 hcz.1)
  go_enter Try.func39, Try.ntmps39
  go_upto_region 1 with (fail)
  generalize w.alloc _ = W0 at *
  go_wp2_with (first | (refine wpList_bldN (vs := #[(0, Value.int IntKind.i64 54554), (1, Value.int IntKind.i64 36645), (2, Value.int IntKind.i64 11616), (3, Value.int IntKind.i64 51542), (4, Value.int IntKind.i64 42930), (5, Value.int IntKind.i64 38181), (6, Value.int IntKind.i64 51040), (7, Value.int IntKind.i64 26924), (8, Value.int IntKind.i64 56412), (9, Value.int IntKind.i64 64982), (10, Value.int IntKind.i64 57905), (11, Value.int IntKind.i64 49316), (12, Value.int IntKind.i64 21502), (13, Value.int IntKind.i64 52590), (14, Value.int IntKind.i64 14035), (15, Value.int IntKind.i64 8553)]) rfl rfl ?_ (hb1.out _) ?_; focus (simp [Act.eval]; done)) | (refine wpList_bldN (vs := #[(0, Value.int IntKind.i64 26200), (1, Value.int IntKind.i64 26214), (2, Value.int IntKind.i64 26214), (3, Value.int IntKind.i64 26214), (4, Value.int IntKind.i64 26214), (5, Value.int IntKind.i64 26214), (6, Value.int IntKind.i64 26214), (7, Value.int IntKind.i64 26214), (8, Value.int IntKind.i64 26214), (9, Value.int IntKind.i64 26214), (10, Value.int IntKind.i64 26214), (11, Value.int IntKind.i64 26214), (12, Value.int IntKind.i64 26214), (13, Value.int IntKind.i64 26214), (14, Value.int IntKind.i64 26214), (15, Value.int IntKind.i64 26214)]) rfl rfl ?_ (hb2.out _) ?_; focus (simp [Act.eval]; done)))
  refine (h1.out _).mono ?_
  rintro e w2 ⟨rfl, hb⟩
  have hR2 := row_below hR.out hb hR.out.lt
  have hL2 := Lib.hid (below_step hb hL.out (Nat.le_refl _))
  clear hb hR hL
  dsimp only
  go_wp2_with (refine wpList_bldC (v0 := .agg (arrK .i64 16 F)) (v1 := .agg (arrK .i64 16 G)) (v2 := .agg (arrK .i64 16 (dgt 1))) rfl rfl (by go_simp) (by go_simp) (by go_simp) (build_rp _ _ _ _) ?_)
  exact ret_stored (p := 0) (ty := 48) (g := w.heap.size) (n := 48) (c := arrK .i64 48 (cat3 F G (dgt 1))) rfl Try.underlying48 rfl (by kernel_rfl) rfl hR2 hcp.1 rfl ⟨rfl, below_setRow hL2.out (Nat.le_refl _)⟩
theorem rp_Point (x y z : Nat) (w : World) (hx : x < 2 ^ 256) (hy : y < 2 ^ 256) (hz : z < 2 ^ 256) : Calls Try.prog 33 #[rpV x y z] w fun e w' => e = .returned (ptV (x * invP z % fP) (y * invP z % fP)) ∧ Below w.heap.size w w' := by
  have hi : invP z < 2 ^ 256 := Nat.lt_trans lt_P P_lt
  have hI := Lib.hid (fun V => fe_Over z V hz)
  obtain ⟨i, hi'⟩ : ∃ i, invP z = i := ⟨_, rfl⟩
  rw [hi'] at hI hi ⊢
  have hM1 := Lib.hid (fun V => fe_By x i V hx hi)
  have hM2 := Lib.hid (fun V => fe_By y i V hy hi)
  have hN1 := Lib.hid (fun V => fe_Num (x * i % fP) V low_lt)
  have hN2 := Lib.hid (fun V => fe_Num (y * i % fP) V low_lt)
  obtain ⟨a, ha⟩ : ∃ m, x * i % fP = m := ⟨_, rfl⟩
  obtain ⟨b, hb⟩ : ∃ m, y * i % fP = m := ⟨_, rfl⟩
  rw [ha] at hM1 hN1 ⊢
  rw [hb] at hM2 hN2 ⊢
  clear ha hb hx hy hz hi' hi
  unfold feV at hM1 hM2 hI hN1 hN2
  unfold numV at hN1 hN2
  unfold ptV rpV
  have hcq := arrK_cells .u64 8 (cat2 (wd a) (wd b))
  have hci := arrK_cells .i64 16 (dgt i)
  have hc0 := arrK_cells .i64 16 fun _ => 0
  have hcz := arrK_cells .u64 8 (cat2 (wd 0) (wd 0))
  have hL0 : Below w.heap.size w ((w.alloc (Obj.cells (arrK .i64 48 (cat3 (dgt x) (dgt y) (dgt z))) 48)).alloc (Obj.cells (arrK .u64 8 (cat2 (wd 0) (wd 0))) 42)) := by go_grown
  have hA0 : At ((w.alloc (Obj.cells (arrK .i64 48 (cat3 (dgt x) (dgt y) (dgt z))) 48)).alloc (Obj.cells (arrK .u64 8 (cat2 (wd 0) (wd 0))) 42)) w.heap.size .i64 48 (cat3 (dgt x) (dgt y) (dgt z)) := (At.new _ rfl).old _
  have hR0 : Row ((w.alloc (Obj.cells (arrK .i64 48 (cat3 (dgt x) (dgt y) (dgt z))) 48)).alloc (Obj.cells (arrK .u64 8 (cat2 (wd 0) (wd 0))) 42)) (w.heap.size + 1) 8 := (At.new (k := .u64) (f := cat2 (wd 0) (wd 0)) _ (by simp)).row
  have hL := Lib.hid hL0
  have hR := Lib.hid hR0
  have hA := Lib.hid hA0
  clear hL0 hR0 hA0
  go_enter Try.func33, Try.ntmps33
  go_upto_region 1 with (fail)
  generalize (w.alloc _).alloc _ = W0 at *
  have hl1 := (rp_2 hA.out).1
  have hl2 := (rp_2 hA.out).2
  go_upto_region 2 with (fail)
  refine (hI.out _).mono ?_
  rintro e w2 ⟨rfl, hb2⟩
  have hA2 := hA.out.step hb2
  have hR2 := row_below hR.out hb2 hR.out.lt
  have hL2 := below_step hb2 hL.out (Nat.le_refl _)
  have hlt : w.heap.size + 1 < w2.heap.size := hR2.lt
  clear hl1 hl2 hA hR hL hb2 hI
  have hA := Lib.hid (hA2.old (Obj.cells (arrK .i64 16 (dgt i)) 26))
  have hR := Lib.hid ((row_old (o := Obj.cells (arrK .i64 16 (dgt i)) 26) hR2.lt).2 hR2)
  have hL := Lib.hid (Below.trans hL2 ((below_alloc w2 (Obj.cells (arrK .i64 16 (dgt i)) 26)).mono hL2.size))
  have hX := Lib.hid (At.new (w := w2) (k := .i64) (m := 16) (f := dgt i) 26 rfl)
  clear hA2 hR2 hL2
  dsimp only
  go_upto_region 2 with (fail)
  obtain ⟨g, hg⟩ : ∃ g, w2.heap.size = g := ⟨_, rfl⟩
  rw [hg] at hX hlt ⊢
  clear hg
  generalize w2.alloc _ = W1 at *
  generalize ha0 : Act.mk _ _ = a0
  have e1 : a0.tmps[1]?.getD undef = .pointer (some ⟨w.heap.size, 0, none⟩) := by rw [← ha0]; rfl
  have e2 : a0.tmps[2]?.getD undef = .pointer (some ⟨w.heap.size + 1, 0, none⟩) := by rw [← ha0]; rfl
  have e3 : a0.tmps[3]?.getD undef = .pointer (some ⟨g, 0, none⟩) := by rw [← ha0]; rfl
  have hz0 : a0.tmps.size = 18 := by rw [← ha0]; rfl
  have hha0 := Lib.hid ha0
  clear ha0
  refine wp_region_one (fun jx_ => match jx_ with | 0 => some (.pointer (some ⟨w.heap.size, 0, none⟩)) | 1 => some (.agg (arrK .i64 16 (dgt x))) | 2 => some (.agg (arrK .i64 16 (dgt i))) | 3 => some (.agg (arrK .i64 16 (dgt a))) | 4 => some (.agg (arrK .u64 4 (wd a))) | 5 => some (.pointer (some ⟨w.heap.size, 16, none⟩)) | 6 => some (.agg (arrK .i64 16 (dgt y))) | 7 => some (.agg (arrK .i64 16 (dgt i))) | 8 => some (.agg (arrK .i64 16 (dgt b))) | 9 => some (.agg (arrK .u64 4 (wd b))) | 10 => some (.agg (arrK .u64 8 (cat2 (wd a) (wd b)))) | _ => none) 11 ((w.heap.size + 1)) 8 (arrK .u64 8 (cat2 (wd a) (wd b))) (by kernel_rfl) (by kernel_rfl) (by kernel_rfl) (slotsOk_of hz0 (by kernel_rfl)) (of_decide_eq_true (by kernel_rfl)) hR.out ⟨?_, ?_, ?_, ?_, ?_, ?_, ?_, ?_, ?_, ?_, ?_, ?_, trivial⟩ ?_
  · refine one_before (by decide) (by kernel_rfl) (calm_step rfl fun aa ω κ hb hu hc hK => ?_)
    have h1 : aa.tmps[1]?.getD undef = .pointer (some ⟨w.heap.size, 0, none⟩) := (hu 1 rfl).trans e1
    have hk := Lib.hid (fun w1 (h : Below ω.heap.size ω w1) => hK (.pointer (some ⟨w.heap.size, 0, none⟩)) w1 rfl h)
    clear hK hu hc
    go_simp
    exact hk.out _ (Below.refl _ _)
  · refine one_before (by decide) (by kernel_rfl) (calm_step rfl fun aa ω κ hb hu hc hK => ?_)
    have h7 : aa.tmps[7]?.getD undef = .pointer (some ⟨w.heap.size, 0, none⟩) := hc 0 7 rfl rfl
    have hk := Lib.hid (fun w1 (h : Below ω.heap.size ω w1) => hK (.agg (arrK .i64 16 (dgt x))) w1 rfl h)
    clear hK hu hc
    have hl := rp_0 (hA.out.step hb)
    have hl1 := hl.1
    have hl2 := hl.2
    go_simp
    exact hk.out _ (Below.refl _ _)
  · refine one_before (by decide) (by kernel_rfl) (calm_step rfl fun aa ω κ hb hu hc hK => ?_)
    have h3 : aa.tmps[3]?.getD undef = .pointer (some ⟨g, 0, none⟩) := (hu 3 rfl).trans e3
    have hk := Lib.hid (fun w1 (h : Below ω.heap.size ω w1) => hK (.agg (arrK .i64 16 (dgt i))) w1 rfl h)
    clear hK hu hc
    have hr1 := (hX.out.step hb).row
    have hr2 := (hX.out.step hb).eq
    go_simp
    exact hk.out _ (Below.refl _ _)
  · refine one_before (by decide) (by kernel_rfl) (calm_step rfl fun aa ω κ hb hu hc hK => ?_)
    have h8 : aa.tmps[8]?.getD undef = .agg (arrK .i64 16 (dgt x)) := hc 1 8 rfl rfl
    have h9 : aa.tmps[9]?.getD undef = .agg (arrK .i64 16 (dgt i)) := hc 2 9 rfl rfl
    have hk := Lib.hid (fun w1 (h : Below ω.heap.size ω w1) => hK (.agg (arrK .i64 16 (dgt a))) w1 rfl h)
    clear hK hu hc
    go_simp
    go_at_call 25
    refine (hM1.out _).mono ?_
    rintro e w1 ⟨rfl, hb1⟩
    exact hk.out _ hb1
  · refine one_before (by decide) (by kernel_rfl) (calm_step rfl fun aa ω κ hb hu hc hK => ?_)
    have h10 : aa.tmps[10]?.getD undef = .agg (arrK .i64 16 (dgt a)) := hc 3 10 rfl rfl
    have hk := Lib.hid (fun w1 (h : Below ω.heap.size ω w1) => hK (.agg (arrK .u64 4 (wd a))) w1 rfl h)
    clear hK hu hc
    go_simp
    go_at_call 19
    refine (hN1.out _).mono ?_
    rintro e w1 ⟨rfl, hb1⟩
    exact hk.out _ hb1
  · refine one_before (by decide) (by kernel_rfl) (calm_step rfl fun aa ω κ hb hu hc hK => ?_)
    have h1 : aa.tmps[1]?.getD undef = .pointer (some ⟨w.heap.size, 0, none⟩) := (hu 1 rfl).trans e1
    have hk := Lib.hid (fun w1 (h : Below ω.heap.size ω w1) => hK (.pointer (some ⟨w.heap.size, 16, none⟩)) w1 rfl h)
    clear hK hu hc
    go_simp
    exact hk.out _ (Below.refl _ _)
  · refine one_before (by decide) (by kernel_rfl) (calm_step rfl fun aa ω κ hb hu hc hK => ?_)
    have h12 : aa.tmps[12]?.getD undef = .pointer (some ⟨w.heap.size, 16, none⟩) := hc 5 12 rfl rfl
    have hk := Lib.hid (fun w1 (h : Below ω.heap.size ω w1) => hK (.agg (arrK .i64 16 (dgt y))) w1 rfl h)
    clear hK hu hc
    have hl := rp_1 (hA.out.step hb)
    have hl1 := hl.1
    have hl2 := hl.2
    go_simp
    exact hk.out _ (Below.refl _ _)
  · refine one_before (by decide) (by kernel_rfl) (calm_step rfl fun aa ω κ hb hu hc hK => ?_)
    have h3 : aa.tmps[3]?.getD undef = .pointer (some ⟨g, 0, none⟩) := (hu 3 rfl).trans e3
    have hk := Lib.hid (fun w1 (h : Below ω.heap.size ω w1) => hK (.agg (arrK .i64 16 (dgt i))) w1 rfl h)
    clear hK hu hc
    have hr1 := (hX.out.step hb).row
    have hr2 := (hX.out.step hb).eq
    go_simp
    exact hk.out _ (Below.refl _ _)
  · refine one_before (by decide) (by kernel_rfl) (calm_step rfl fun aa ω κ hb hu hc hK => ?_)
    have h13 : aa.tmps[13]?.getD undef = .agg (arrK .i64 16 (dgt y)) := hc 6 13 rfl rfl
    have h14 : aa.tmps[14]?.getD undef = .agg (arrK .i64 16 (dgt i)) := hc 7 14 rfl rfl
    have hk := Lib.hid (fun w1 (h : Below ω.heap.size ω w1) => hK (.agg (arrK .i64 16 (dgt b))) w1 rfl h)
    clear hK hu hc
    go_simp
    go_at_call 25
    refine (hM2.out _).mono ?_
    rintro e w1 ⟨rfl, hb1⟩
    exact hk.out _ hb1
  · refine one_before (by decide) (by kernel_rfl) (calm_step rfl fun aa ω κ hb hu hc hK => ?_)
    have h15 : aa.tmps[15]?.getD undef = .agg (arrK .i64 16 (dgt b)) := hc 8 15 rfl rfl
    have hk := Lib.hid (fun w1 (h : Below ω.heap.size ω w1) => hK (.agg (arrK .u64 4 (wd b))) w1 rfl h)
    clear hK hu hc
    go_simp
    go_at_call 19
    refine (hN2.out _).mono ?_
    rintro e w1 ⟨rfl, hb1⟩
    exact hk.out _ hb1
  · refine one_before (by decide) (by kernel_rfl) (calm_step rfl fun aa ω κ hb hu hc hK => ?_)
    have h11 : aa.tmps[11]?.getD undef = .agg (arrK .u64 4 (wd a)) := hc 4 11 rfl rfl
    have h16 : aa.tmps[16]?.getD undef = .agg (arrK .u64 4 (wd b)) := hc 9 16 rfl rfl
    have hk := Lib.hid (fun w1 (h : Below ω.heap.size ω w1) => hK (.agg (arrK .u64 8 (cat2 (wd a) (wd b)))) w1 rfl h)
    clear hK hu hc
    exact wp_bldB (v0 := .agg (arrK .u64 4 (wd a))) (v1 := .agg (arrK .u64 4 (wd b))) rfl (by go_simp) (by go_simp) (build_pt _ _ _) (hk.out _ (Below.refl _ _))
  · refine one_q (one_write rfl rfl fun aa ω κ hb hu hc hr hK => ?_)
    have h2 : aa.tmps[2]?.getD undef = .pointer (some ⟨w.heap.size + 1, 0, none⟩) := (hu 2 rfl).trans e2
    have h17 : aa.tmps[17]?.getD undef = .agg (arrK .u64 8 (cat2 (wd a) (wd b))) := hc 10 17 rfl rfl
    have hk := Lib.hid hK
    clear hK hu hc
    have hcc := hcq
    go_simp
    exact hk.out undef
  · intro a1 w1 hb1 hu1 hsz1 hdf1 hv1
    have ha0 := hha0.out
    subst ha0
    have he := act_patch (n := 18) [false, false, false, false, false, false, false, true, true, true, true, true, true, true, true, true, true, true] rfl (by kernel_rfl) hu1 hsz1 hdf1
    simp only [patch, cond_true, cond_false, Nat.reduceAdd] at he
    have hXz := (At.put (k := .u64) (f := (cat2 (wd a) (wd b))) hR.out).below hb1 (by simpa using hR.out.lt)
    have hLz := Lib.hid (Below.trans (below_setRow (c := arrK .u64 8 (cat2 (wd a) (wd b))) hL.out (by omega)) (hb1.mono (by simpa using hL.out.size)))
    clear hR hL hA hM1 hM2 hN1 hN2 hX
    clear hb1 hu1 hsz1 hdf1 hv1 hz0 hha0 e1 e2 e3
    rw [he]
    clear he
    generalize a1.tmps[7]?.getD undef = x7 at *
    generalize a1.tmps[8]?.getD undef = x8 at *
    generalize a1.tmps[9]?.getD undef = x9 at *
    generalize a1.tmps[10]?.getD undef = x10 at *
    generalize a1.tmps[11]?.getD undef = x11 at *
    generalize a1.tmps[12]?.getD undef = x12 at *
    generalize a1.tmps[13]?.getD undef = x13 at *
    generalize a1.tmps[14]?.getD undef = x14 at *
    generalize a1.tmps[15]?.getD undef = x15 at *
    generalize a1.tmps[16]?.getD undef = x16 at *
    generalize a1.tmps[17]?.getD undef = x17 at *
    go_wp2_with fail
    refine ret_row (p := 2) (ty := 42) (g := (w.heap.size + 1)) rfl Try.underlying42 rfl (by kernel_rfl) rfl hXz.row rfl ?_
    rw [hXz.eq]
    exact ⟨rfl, hLz.out⟩
end Go.Proofs.Ytodcjeaannfbnaa
namespace Go.Proofs.Ytodcjeaannfbnaa
/-- Congruence modulo 2^255 - 19. -/
def Cg (a b : Int) : Prop := ∃ k, a = b + (fP : Int) * k
section
variable {a b c d : Int} {m n : Nat}
theorem Cg.refl (a : Int) : Cg a a := ⟨0, by rw [Int.mul_zero, Int.add_zero]⟩
theorem Cg.symm (h : Cg a b) : Cg b a := by obtain ⟨k, hk⟩ := h; exact ⟨-k, by grind⟩
theorem Cg.trans (h : Cg a b) (h2 : Cg b c) : Cg a c := by obtain ⟨k, hk⟩ := h; obtain ⟨l, hl⟩ := h2; exact ⟨k + l, by grind⟩
theorem Cg.add (h : Cg a b) (h2 : Cg c d) : Cg (a + c) (b + d) := by obtain ⟨k, hk⟩ := h; obtain ⟨l, hl⟩ := h2; exact ⟨k + l, by grind⟩
theorem Cg.sub (h : Cg a b) (h2 : Cg c d) : Cg (a - c) (b - d) := by obtain ⟨k, hk⟩ := h; obtain ⟨l, hl⟩ := h2; exact ⟨k - l, by grind⟩
theorem Cg.mul (h : Cg a b) (h2 : Cg c d) : Cg (a * c) (b * d) := by obtain ⟨k, hk⟩ := h; obtain ⟨l, hl⟩ := h2; exact ⟨b * l + k * d + (fP : Int) * k * l, by grind⟩
theorem Cg.mod (n : Nat) : Cg ((n % fP : Nat) : Int) n := by
  have h := Nat.mod_add_div n fP
  refine ⟨-((n / fP : Nat) : Int), ?_⟩
  have h2 : ((n % fP : Nat) : Int) + (fP : Int) * ((n / fP : Nat) : Int) = (n : Int) := by rw [← Int.natCast_mul, ← Int.natCast_add, h]
  grind
theorem Cg.mulM (h : Cg m a) (h2 : Cg n b) : Cg ((m * n % fP : Nat) : Int) (a * b) := (Cg.mod _).trans (by rw [Int.natCast_mul]; exact h.mul h2)
theorem Cg.addM (h : Cg m a) (h2 : Cg n b) : Cg (((m + n) % fP : Nat) : Int) (a + b) := (Cg.mod _).trans (by rw [Int.natCast_add]; exact h.add h2)
theorem Cg.difM (h : Cg m a) (h2 : Cg n b) : Cg ((difP m n : Nat) : Int) (a - b) := by
  unfold difP
  refine (Cg.mod _).trans ?_
  have h3 := lt_P (a := n)
  rw [Int.natCast_add, Int.natCast_sub (Nat.le_of_lt h3)]
  have h4 := ((Cg.mod m).trans h).sub ((Cg.mod n).trans h2)
  obtain ⟨k, hk⟩ := h4
  exact ⟨k + 1, by grind⟩
/-- The document's difference. -/
def lessM (a b : Nat) : Nat := (a + 4 * fP - b) % fP
theorem Cg.lessM (h : Cg m a) (h2 : Cg n b) (hn : n < fP) : Cg ((lessM m n : Nat) : Int) (a - b) := by
  unfold Proofs.Ytodcjeaannfbnaa.lessM
  refine (Cg.mod _).trans ?_
  rw [Int.natCast_sub (by omega), Int.natCast_add, Int.natCast_mul]
  obtain ⟨k, hk⟩ := h.sub h2
  exact ⟨k + 4, by grind⟩
theorem Cg.eq (h : Cg m n) (hm : m < fP) (hn : n < fP) : m = n := by
  obtain ⟨k, hk⟩ := h
  generalize fP = P at *
  have h1 : k < 1 := by
    rcases Int.lt_or_le k 1 with h | h
    · exact h
    · have := Int.mul_le_mul_of_nonneg_left h (show (0 : Int) ≤ (P : Int) by omega)
      omega
  have h2 : -1 < k := by
    rcases Int.lt_or_le (-1) k with h | h
    · exact h
    · have := Int.mul_le_mul_of_nonneg_left h (show (0 : Int) ≤ (P : Int) by omega)
      omega
  have h3 : k = 0 := by omega
  subst h3
  omega
theorem Cg.of_eq (h : m % fP = n % fP) : Cg m n := (Cg.mod m).symm.trans (h ▸ Cg.mod n)
end

/-! Powers, by squaring. -/
def pwf (a : Nat) : Nat → Nat → Nat
  | 0, _ => 1
  | f + 1, n => if n % 2 = 0 then (pwf a f (n / 2)) ^ 2 % fP else ((pwf a f (n / 2)) ^ 2 % fP) * a % fP
theorem pwf_is (a : Nat) : ∀ f n, n < 2 ^ f → pwf a f n % fP = a ^ n % fP
  | 0, n, h => by
    have : n = 0 := by rw [Nat.pow_zero] at h; omega
    subst this; rfl
  | f + 1, n, h => by
    have ih := pwf_is a f (n / 2) (by rw [Nat.pow_succ] at h; omega)
    unfold pwf
    split
    · rename_i h0
      rw [Nat.mod_mod, Nat.pow_mod, ih, ← Nat.pow_mod, ← Nat.pow_mul, show n / 2 * 2 = n by omega]
    · rename_i h0
      rw [Nat.mod_mod, Nat.mod_mul_mod, Nat.mul_mod, Nat.pow_mod, ih, ← Nat.pow_mod, ← Nat.mul_mod, ← Nat.pow_mul, ← Nat.pow_succ, show (n / 2 * 2).succ = n by omega]
theorem four_pow : 4 ^ (fP - 1) % fP = 1 := by
  have h : fP - 1 < 2 ^ 256 := Nat.lt_of_le_of_lt (Nat.sub_le _ _) P_lt
  rw [← pwf_is 4 256 _ h]
  decide +kernel
/-- Four times as much above and below is the same. -/
theorem over_four {X X4 Z Z4 : Nat} (hX : Cg X4 (4 * (X : Int))) (hZ : Cg Z4 (4 * (Z : Int))) : X4 * invP Z4 % fP = X * invP Z % fP := by
  refine Cg.eq ?_ lt_P lt_P
  refine (Cg.mod _).trans (Cg.trans ?_ (Cg.mod _).symm)
  have hi : ∀ n m : Nat, Cg m n → ∀ k : Nat, Cg ((m ^ k : Nat) : Int) ((n ^ k : Nat) : Int) := fun n m h k => by
    induction k with
    | zero => exact Cg.refl _
    | succ k ih => rw [Nat.pow_succ, Nat.pow_succ, Int.natCast_mul, Int.natCast_mul]; exact ih.mul h
  have hZ' : Cg Z4 ((4 * Z : Nat) : Int) := by rw [Int.natCast_mul]; exact hZ
  have h1 : Cg (invP Z4) (((4 ^ (fP - 2) : Nat) : Int) * (invP Z : Int)) := by
    unfold invP
    refine (Cg.mod _).trans ((hi _ _ hZ' (fP - 2)).trans ?_)
    rw [Nat.mul_pow, Int.natCast_mul]
    exact (Cg.refl _).mul (Cg.mod _).symm
  have h2 : Cg (4 * ((4 ^ (fP - 2) : Nat) : Int)) 1 := by
    have h3 : 4 * 4 ^ (fP - 2) = 4 ^ (fP - 1) := by
      rw [Nat.mul_comm, ← Nat.pow_succ]
      congr 1
    rw [show (4 : Int) * ((4 ^ (fP - 2) : Nat) : Int) = ((4 * 4 ^ (fP - 2) : Nat) : Int) by rw [Int.natCast_mul]; rfl, h3]
    refine (Cg.mod _).symm.trans ?_
    rw [four_pow]
    exact Cg.refl _
  rw [Int.natCast_mul, Int.natCast_mul]
  refine (hX.mul h1).trans ?_
  generalize ((4 ^ (fP - 2) : Nat) : Int) = q at *
  have h4 := h2.mul (Cg.refl ((X : Int) * (invP Z : Int)))
  rw [Int.one_mul] at h4
  refine Cg.trans ?_ h4
  rw [show 4 * (X : Int) * (q * (invP Z : Int)) = 4 * q * ((X : Int) * (invP Z : Int)) by grind]
  exact Cg.refl _

/-! The document's side. -/
/-- Is it a point of the curve? -/
def onR (x y : Nat) : Bool := decide (x % fP = x) && decide (y % fP = y) && decide ((y % fP) * (y % fP) % fP = ((1 + (x % fP) * (x % fP) % fP) % fP + (dN * ((x % fP) * (x % fP) % fP) % fP) * ((y % fP) * (y % fP) % fP) % fP) % fP)
theorem on_same (x y : Nat) : onR x y = onB x y := by
  unfold onR onB
  by_cases hx : x % fP = x
  · by_cases hy : y % fP = y
    · rw [hx, hy]
      simp only [decide_true, Bool.true_and]
      refine decide_eq_decide.2 ?_
      have e1 := Cg.mulM (Cg.refl x) (Cg.refl x)
      have e2 := Cg.mulM (Cg.refl y) (Cg.refl y)
      have l1 : x * x % fP < fP := lt_P
      have l2 : y * y % fP < fP := lt_P
      generalize x * x % fP = xx at *
      generalize y * y % fP = yy at *
      generalize dN = dd at *
      have p1 := Cg.difM (Cg.refl yy) (Cg.refl xx)
      have p2 := Cg.addM (m := 1) (Cg.refl 1) (Cg.mulM (Cg.refl dd) (Cg.mulM (Cg.refl xx) (Cg.refl yy)))
      have p3 := Cg.addM (Cg.addM (m := 1) (Cg.refl 1) (Cg.refl xx)) (Cg.mulM (Cg.mulM (Cg.refl dd) (Cg.refl xx)) (Cg.refl yy))
      constructor
      · intro h
        refine Cg.eq (p1.trans (Cg.trans ?_ p2.symm)) lt_P lt_P
        rw [← h] at p3
        obtain ⟨k, hk⟩ := p3
        exact ⟨k, by grind⟩
      · intro h
        refine Cg.eq (Cg.trans ?_ p3.symm) l2 lt_P
        rw [h] at p1
        obtain ⟨k, hk⟩ := p1.symm.trans p2
        exact ⟨k, by grind⟩
    · rw [decide_eq_false hy, decide_eq_false (p := y = y % fP) (fun h => hy h.symm), Bool.and_false, Bool.false_and, Bool.and_false, Bool.false_and]
  · rw [decide_eq_false hx, decide_eq_false (p := x = x % fP) (fun h => hx h.symm), Bool.false_and, Bool.false_and, Bool.false_and, Bool.false_and]
theorem on_lt {x y : Nat} (h : onB x y = true) : x < fP ∧ y < fP := by
  unfold onB at h
  rw [Bool.and_eq_true, Bool.and_eq_true, decide_eq_true_eq, decide_eq_true_eq] at h
  exact ⟨by rw [h.1.1]; exact lt_P, by rw [h.1.2]; exact lt_P⟩
/-- What the document makes of two fractions. -/
def rplus (X1 Y1 Z1 X2 Y2 Z2 : Nat) : Nat × Nat × Nat :=
  let a := Z1 * Z2 % fP
  let c := X1 * X2 % fP
  let d := Y1 * Y2 % fP
  let b := a * a % fP
  let e := (dN * c % fP) * d % fP
  let f := lessM b e
  let g := (b + e) % fP
  let s := (X1 * Y2 % fP + Y1 * X2 % fP) % fP
  ((a * f % fP) * s % fP, (a * g % fP) * ((c + d) % fP) % fP, f * g % fP)
def rpoint (X Y Z : Nat) : Nat × Nat := (X * invP Z % fP, Y * invP Z % fP)
theorem add_same {x1 y1 x2 y2 : Nat} (hx1 : x1 < fP) (hy1 : y1 < fP) (hx2 : x2 < fP) (hy2 : y2 < fP) :
    addPt x1 y1 x2 y2 = rpoint (rplus (x1 % fP) (y1 % fP) 1 (x2 % fP) (y2 % fP) 1).1 (rplus (x1 % fP) (y1 % fP) 1 (x2 % fP) (y2 % fP) 1).2.1 (rplus (x1 % fP) (y1 % fP) 1 (x2 % fP) (y2 % fP) 1).2.2 := by
  rw [Nat.mod_eq_of_lt hx1, Nat.mod_eq_of_lt hy1, Nat.mod_eq_of_lt hx2, Nat.mod_eq_of_lt hy2]
  -- the program's
  have pa := Cg.mulM (Cg.difM (Cg.refl y1) (Cg.refl x1)) (Cg.difM (Cg.refl y2) (Cg.refl x2))
  have pb := Cg.mulM (Cg.addM (Cg.refl y1) (Cg.refl x1)) (Cg.addM (Cg.refl y2) (Cg.refl x2))
  have pc0 := Cg.mulM (Cg.mulM (Cg.mulM (Cg.refl x1) (Cg.refl y1)) (Cg.mulM (Cg.refl x2) (Cg.refl y2))) (Cg.refl dN)
  have pc := Cg.addM pc0 pc0
  have pz0 := Cg.mulM (m := 1) (n := 1) (Cg.refl 1) (Cg.refl 1)
  have pz := Cg.addM pz0 pz0
  have pe := Cg.difM pb pa
  have pf := Cg.difM pz pc
  have pg := Cg.addM pz pc
  have ph := Cg.addM pb pa
  have p1 := Cg.mulM pe pf
  have p2 := Cg.mulM pg ph
  have p3 := Cg.mulM pf pg
  -- the document's
  have ra := Cg.mulM (m := 1) (n := 1) (Cg.refl 1) (Cg.refl 1)
  have rc := Cg.mulM (Cg.refl x1) (Cg.refl x2)
  have rd := Cg.mulM (Cg.refl y1) (Cg.refl y2)
  have rb := Cg.mulM ra ra
  have re := Cg.mulM (Cg.mulM (Cg.refl dN) rc) rd
  have rf := Cg.lessM rb re lt_P
  have rg := Cg.addM rb re
  have rs := Cg.addM (Cg.mulM (Cg.refl x1) (Cg.refl y2)) (Cg.mulM (Cg.refl y1) (Cg.refl x2))
  have r1 := Cg.mulM (Cg.mulM ra rf) rs
  have r2 := Cg.mulM (Cg.mulM ra rg) (Cg.addM rc rd)
  have r3 := Cg.mulM rf rg
  unfold addPt rpoint
  refine Prod.ext ?_ ?_
  · refine over_four (p1.trans (Cg.trans ?_ ((Cg.refl 4).mul r1).symm)) (p3.trans (Cg.trans ?_ ((Cg.refl 4).mul r3).symm))
    · exact ⟨0, by grind⟩
    · exact ⟨0, by grind⟩
  · refine over_four (p2.trans (Cg.trans ?_ ((Cg.refl 4).mul r2).symm)) (p3.trans (Cg.trans ?_ ((Cg.refl 4).mul r3).symm))
    · exact ⟨0, by grind⟩
    · exact ⟨0, by grind⟩
theorem neg_same (x : Nat) : difP 0 x = lessM 0 (x % fP) := by
  refine Cg.eq ((Cg.difM (m := 0) (Cg.refl 0) (Cg.refl x)).trans (Cg.lessM (m := 0) (Cg.refl 0) (Cg.mod x) lt_P).symm) lt_P lt_P
end Go.Proofs.Ytodcjeaannfbnaa
namespace Go.Proofs.Ytodcjeaannfbnaa
open Go.ChangeShapes Go.WideShapes Go.ChangeAt Go.RowKit
set_option maxHeartbeats 2000000
set_option maxRecDepth 100000
attribute [local go_sem ↓] load_fld load_feP load_num store_num load_fe store_fe load_pt store_pt load_rp store_rp
attribute [local go_sem] isHead_mk blkOf_mk isAgg_mk cellsV_mk row_drew rowAt_drew row_new_cells row_old rowAt_new rowAt_old setRow_new zeroNum zeroPt zeroFe zeroRp
theorem less_low {a b : Nat} : lessM a b < 2 ^ 256 := low_lt
theorem rp_Plus (X1 Y1 Z1 X2 Y2 Z2 va vc vd vb ve0 ve vf vg vs1 vs2 vs vu1 r1 vu2 vcd r2 r3 : Nat) (w : World) (hX1 : X1 < 2 ^ 256) (hY1 : Y1 < 2 ^ 256) (hZ1 : Z1 < 2 ^ 256) (hX2 : X2 < 2 ^ 256) (hY2 : Y2 < 2 ^ 256) (hZ2 : Z2 < 2 ^ 256) (hva : Z1 * Z2 % fP = va) (hvc : X1 * X2 % fP = vc) (hvd : Y1 * Y2 % fP = vd) (hvb : va * va % fP = vb) (hve0 : dN * vc % fP = ve0) (hve : ve0 * vd % fP = ve) (hvf : lessM vb ve = vf) (hvg : (vb + ve) % fP = vg) (hvs1 : X1 * Y2 % fP = vs1) (hvs2 : Y1 * X2 % fP = vs2) (hvs : (vs1 + vs2) % fP = vs) (hvu1 : va * vf % fP = vu1) (hr1 : vu1 * vs % fP = r1) (hvu2 : va * vg % fP = vu2) (hvcd : (vc + vd) % fP = vcd) (hr2 : vu2 * vcd % fP = r2) (hr3 : vf * vg % fP = r3) : Calls Try.prog 40 #[rpV X1 Y1 Z1, rpV X2 Y2 Z2] w fun e w' => e = .returned (rpV r1 r2 r3) ∧ Below w.heap.size w w' := by
  have hdN := dN_lt
  have lva : va < 2 ^ 256 := hva ▸ low_lt
  have lvc : vc < 2 ^ 256 := hvc ▸ low_lt
  have lvd : vd < 2 ^ 256 := hvd ▸ low_lt
  have lvb : vb < 2 ^ 256 := hvb ▸ low_lt
  have lve0 : ve0 < 2 ^ 256 := hve0 ▸ low_lt
  have lve : ve < 2 ^ 256 := hve ▸ low_lt
  have lvf : vf < 2 ^ 256 := hvf ▸ less_low
  have lvg : vg < 2 ^ 256 := hvg ▸ low_lt
  have lvs1 : vs1 < 2 ^ 256 := hvs1 ▸ low_lt
  have lvs2 : vs2 < 2 ^ 256 := hvs2 ▸ low_lt
  have lvs : vs < 2 ^ 256 := hvs ▸ low_lt
  have lvu1 : vu1 < 2 ^ 256 := hvu1 ▸ low_lt
  have lr1 : r1 < 2 ^ 256 := hr1 ▸ low_lt
  have lvu2 : vu2 < 2 ^ 256 := hvu2 ▸ low_lt
  have lvcd : vcd < 2 ^ 256 := hvcd ▸ low_lt
  have lr2 : r2 < 2 ^ 256 := hr2 ▸ low_lt
  have lr3 : r3 < 2 ^ 256 := hr3 ▸ low_lt
  have kva := Lib.hid (fun V => fe_By Z1 Z2 V hZ1 hZ2)
  rw [hva] at kva
  have kvc := Lib.hid (fun V => fe_By X1 X2 V hX1 hX2)
  rw [hvc] at kvc
  have kvd := Lib.hid (fun V => fe_By Y1 Y2 V hY1 hY2)
  rw [hvd] at kvd
  have kvb := Lib.hid (fun V => fe_By va va V lva lva)
  rw [hvb] at kvb
  have kve0 := Lib.hid (fun V => fe_By dN vc V hdN lvc)
  rw [hve0] at kve0
  have kve := Lib.hid (fun V => fe_By ve0 vd V lve0 lvd)
  rw [hve] at kve
  have kvf := Lib.hid (fun V => fe_Less vb ve V lvb lve)
  rw [show (vb + 4 * fP - ve) % fP = vf from hvf] at kvf
  have kvg := Lib.hid (fun V => fe_Plus vb ve V lvb lve)
  rw [hvg] at kvg
  have kvs1 := Lib.hid (fun V => fe_By X1 Y2 V hX1 hY2)
  rw [hvs1] at kvs1
  have kvs2 := Lib.hid (fun V => fe_By Y1 X2 V hY1 hX2)
  rw [hvs2] at kvs2
  have kvs := Lib.hid (fun V => fe_Plus vs1 vs2 V lvs1 lvs2)
  rw [hvs] at kvs
  have kvu1 := Lib.hid (fun V => fe_By va vf V lva lvf)
  rw [hvu1] at kvu1
  have kr1 := Lib.hid (fun V => fe_By vu1 vs V lvu1 lvs)
  rw [hr1] at kr1
  have kvu2 := Lib.hid (fun V => fe_By va vg V lva lvg)
  rw [hvu2] at kvu2
  have kvcd := Lib.hid (fun V => fe_Plus vc vd V lvc lvd)
  rw [hvcd] at kvcd
  have kr2 := Lib.hid (fun V => fe_By vu2 vcd V lvu2 lvcd)
  rw [hr2] at kr2
  have kr3 := Lib.hid (fun V => fe_By vf vg V lvf lvg)
  rw [hr3] at kr3
  have kd := Lib.hid (fun V => ref_dOf V)
  obtain ⟨dn, hdn⟩ : ∃ d, dN = d := ⟨_, rfl⟩
  rw [hdn] at kd kve0
  clear hdn hdN hX1 hY1 hZ1 hX2 hY2 hZ2 hva lva hvc lvc hvd lvd hvb lvb hve0 lve0 hve lve hvf lvf hvg lvg hvs1 lvs1 hvs2 lvs2 hvs lvs hvu1 lvu1 hr1 lr1 hvu2 lvu2 hvcd lvcd hr2 lr2 hr3 lr3
  unfold feV at kd kva kvc kvd kvb kve0 kve kvf kvg kvs1 kvs2 kvs kvu1 kr1 kvu2 kvcd kr2 kr3
  unfold rpV
  have hcr := arrK_cells .i64 48 (cat3 (dgt r1) (dgt r2) (dgt r3))
  have hcz := arrK_cells .i64 48 (cat3 (fun _ => 0) (fun _ => 0) (fun _ => 0))
  have hc0 := arrK_cells .i64 16 fun _ => 0
  have hcva := arrK_cells .i64 16 (dgt va)
  have hcvc := arrK_cells .i64 16 (dgt vc)
  have hcvd := arrK_cells .i64 16 (dgt vd)
  have hcvb := arrK_cells .i64 16 (dgt vb)
  have hcve := arrK_cells .i64 16 (dgt ve)
  have hcvf := arrK_cells .i64 16 (dgt vf)
  have hcvg := arrK_cells .i64 16 (dgt vg)
  have hcvs := arrK_cells .i64 16 (dgt vs)
  have hL0 : Below w.heap.size w (((w.alloc (Obj.cells (arrK .i64 48 (cat3 (dgt X1) (dgt Y1) (dgt Z1))) 48)).alloc (Obj.cells (arrK .i64 48 (cat3 (dgt X2) (dgt Y2) (dgt Z2))) 48)).alloc (Obj.cells (arrK .i64 48 (cat3 (fun _ => 0) (fun _ => 0) (fun _ => 0))) 48)) := by go_grown
  have hA0 : At (((w.alloc (Obj.cells (arrK .i64 48 (cat3 (dgt X1) (dgt Y1) (dgt Z1))) 48)).alloc (Obj.cells (arrK .i64 48 (cat3 (dgt X2) (dgt Y2) (dgt Z2))) 48)).alloc (Obj.cells (arrK .i64 48 (cat3 (fun _ => 0) (fun _ => 0) (fun _ => 0))) 48)) w.heap.size .i64 48 (cat3 (dgt X1) (dgt Y1) (dgt Z1)) := ((At.new _ rfl).old _).old _
  have hB0 : At (((w.alloc (Obj.cells (arrK .i64 48 (cat3 (dgt X1) (dgt Y1) (dgt Z1))) 48)).alloc (Obj.cells (arrK .i64 48 (cat3 (dgt X2) (dgt Y2) (dgt Z2))) 48)).alloc (Obj.cells (arrK .i64 48 (cat3 (fun _ => 0) (fun _ => 0) (fun _ => 0))) 48)) (w.heap.size + 1) .i64 48 (cat3 (dgt X2) (dgt Y2) (dgt Z2)) := (At.new _ (by simp)).old _
  have hR0 : Row (((w.alloc (Obj.cells (arrK .i64 48 (cat3 (dgt X1) (dgt Y1) (dgt Z1))) 48)).alloc (Obj.cells (arrK .i64 48 (cat3 (dgt X2) (dgt Y2) (dgt Z2))) 48)).alloc (Obj.cells (arrK .i64 48 (cat3 (fun _ => 0) (fun _ => 0) (fun _ => 0))) 48)) (w.heap.size + 1 + 1) 48 := (At.new (k := .i64) (f := (cat3 (fun _ => 0) (fun _ => 0) (fun _ => 0))) _ (by simp)).row
  have hL := Lib.hid hL0
  have hR := Lib.hid hR0
  have hA := Lib.hid hA0
  have hB := Lib.hid hB0
  clear hL0 hR0 hA0 hB0
  go_enter Try.func40, Try.ntmps40
  go_upto_region 1 with (fail)
  generalize ((w.alloc _).alloc _).alloc _ = W0 at *
  generalize ha0 : Act.mk _ _ = a0
  have e2 : a0.tmps[2]?.getD undef = .pointer (some ⟨w.heap.size, 0, none⟩) := by rw [← ha0]; rfl
  have e3 : a0.tmps[3]?.getD undef = .pointer (some ⟨w.heap.size + 1, 0, none⟩) := by rw [← ha0]; rfl
  have hz0 : a0.tmps.size = 69 := by rw [← ha0]; rfl
  have hha0 := Lib.hid ha0
  clear ha0
  refine wp_region_fresh ⟨fun jx_ => match jx_ with | 0 => some (.pointer (some ⟨w.heap.size, 32, none⟩)) | 1 => some (.agg (arrK .i64 16 (dgt Z1))) | 2 => some (.pointer (some ⟨w.heap.size + 1, 32, none⟩)) | 3 => some (.agg (arrK .i64 16 (dgt Z2))) | 4 => some (.agg (arrK .i64 16 (dgt va))) | 5 => some (.pointer (some ⟨w.heap.size, 0, none⟩)) | 6 => some (.agg (arrK .i64 16 (dgt X1))) | 7 => some (.pointer (some ⟨w.heap.size + 1, 0, none⟩)) | 8 => some (.agg (arrK .i64 16 (dgt X2))) | 9 => some (.agg (arrK .i64 16 (dgt vc))) | 10 => some (.pointer (some ⟨w.heap.size, 16, none⟩)) | 11 => some (.agg (arrK .i64 16 (dgt Y1))) | 12 => some (.pointer (some ⟨w.heap.size + 1, 16, none⟩)) | 13 => some (.agg (arrK .i64 16 (dgt Y2))) | 14 => some (.agg (arrK .i64 16 (dgt vd))) | _ => none, fun jx_ => match jx_ with | 15 => some 16 | 16 => some 16 | 17 => some 16 | _ => none, fun jx_ => match jx_ with | 18 => some 15 | 19 => some 16 | 20 => some 17 | _ => none, fun jx_ => match jx_ with | 18 => arrK .i64 16 (dgt va) | 19 => arrK .i64 16 (dgt vc) | 20 => arrK .i64 16 (dgt vd) | _ => #[]⟩ (by kernel_rfl) (by kernel_rfl) (by kernel_rfl) (slotsOk_of hz0 (by kernel_rfl)) rfl ⟨?_, ?_, ?_, ?_, ?_, ?_, ?_, ?_, ?_, ?_, ?_, ?_, ?_, ?_, ?_, ?_, ?_, ?_, ?_, ?_, ?_, trivial⟩ ?_
  · refine fstep_val rfl rfl (calm_step rfl fun aa ω κ hb hu hc hK => ?_)
    have h2 : aa.tmps[2]?.getD undef = .pointer (some ⟨w.heap.size, 0, none⟩) := (hu 2 rfl).trans e2
    have hk := Lib.hid (fun w1 (h : Below ω.heap.size ω w1) => hK (.pointer (some ⟨w.heap.size, 32, none⟩)) w1 rfl h)
    clear hK hu hc
    go_simp
    exact hk.out _ (Below.refl _ _)
  · refine fstep_val rfl rfl (calm_step rfl fun aa ω κ hb hu hc hK => ?_)
    have h13 : aa.tmps[13]?.getD undef = .pointer (some ⟨w.heap.size, 32, none⟩) := hc 0 13 rfl rfl
    have hk := Lib.hid (fun w1 (h : Below ω.heap.size ω w1) => hK (.agg (arrK .i64 16 (dgt Z1))) w1 rfl h)
    clear hK hu hc
    have hl := rp_2 (hA.out.step hb)
    have hl1 := hl.1
    have hl2 := hl.2
    go_simp
    exact hk.out _ (Below.refl _ _)
  · refine fstep_val rfl rfl (calm_step rfl fun aa ω κ hb hu hc hK => ?_)
    have h3 : aa.tmps[3]?.getD undef = .pointer (some ⟨w.heap.size + 1, 0, none⟩) := (hu 3 rfl).trans e3
    have hk := Lib.hid (fun w1 (h : Below ω.heap.size ω w1) => hK (.pointer (some ⟨w.heap.size + 1, 32, none⟩)) w1 rfl h)
    clear hK hu hc
    go_simp
    exact hk.out _ (Below.refl _ _)
  · refine fstep_val rfl rfl (calm_step rfl fun aa ω κ hb hu hc hK => ?_)
    have h15 : aa.tmps[15]?.getD undef = .pointer (some ⟨w.heap.size + 1, 32, none⟩) := hc 2 15 rfl rfl
    have hk := Lib.hid (fun w1 (h : Below ω.heap.size ω w1) => hK (.agg (arrK .i64 16 (dgt Z2))) w1 rfl h)
    clear hK hu hc
    have hl := rp_2 (hB.out.step hb)
    have hl1 := hl.1
    have hl2 := hl.2
    go_simp
    exact hk.out _ (Below.refl _ _)
  · refine fstep_val rfl rfl (calm_step rfl fun aa ω κ hb hu hc hK => ?_)
    have h14 : aa.tmps[14]?.getD undef = .agg (arrK .i64 16 (dgt Z1)) := hc 1 14 rfl rfl
    have h16 : aa.tmps[16]?.getD undef = .agg (arrK .i64 16 (dgt Z2)) := hc 3 16 rfl rfl
    have hk := Lib.hid (fun w1 (h : Below ω.heap.size ω w1) => hK (.agg (arrK .i64 16 (dgt va))) w1 rfl h)
    clear hK hu hc
    go_simp
    go_at_call 25
    refine (kva.out _).mono ?_
    rintro e w1 ⟨rfl, hb1⟩
    exact hk.out _ hb1
  · refine fstep_val rfl rfl (calm_step rfl fun aa ω κ hb hu hc hK => ?_)
    have h2 : aa.tmps[2]?.getD undef = .pointer (some ⟨w.heap.size, 0, none⟩) := (hu 2 rfl).trans e2
    have hk := Lib.hid (fun w1 (h : Below ω.heap.size ω w1) => hK (.pointer (some ⟨w.heap.size, 0, none⟩)) w1 rfl h)
    clear hK hu hc
    go_simp
    exact hk.out _ (Below.refl _ _)
  · refine fstep_val rfl rfl (calm_step rfl fun aa ω κ hb hu hc hK => ?_)
    have h18 : aa.tmps[18]?.getD undef = .pointer (some ⟨w.heap.size, 0, none⟩) := hc 5 18 rfl rfl
    have hk := Lib.hid (fun w1 (h : Below ω.heap.size ω w1) => hK (.agg (arrK .i64 16 (dgt X1))) w1 rfl h)
    clear hK hu hc
    have hl := rp_0 (hA.out.step hb)
    have hl1 := hl.1
    have hl2 := hl.2
    go_simp
    exact hk.out _ (Below.refl _ _)
  · refine fstep_val rfl rfl (calm_step rfl fun aa ω κ hb hu hc hK => ?_)
    have h3 : aa.tmps[3]?.getD undef = .pointer (some ⟨w.heap.size + 1, 0, none⟩) := (hu 3 rfl).trans e3
    have hk := Lib.hid (fun w1 (h : Below ω.heap.size ω w1) => hK (.pointer (some ⟨w.heap.size + 1, 0, none⟩)) w1 rfl h)
    clear hK hu hc
    go_simp
    exact hk.out _ (Below.refl _ _)
  · refine fstep_val rfl rfl (calm_step rfl fun aa ω κ hb hu hc hK => ?_)
    have h20 : aa.tmps[20]?.getD undef = .pointer (some ⟨w.heap.size + 1, 0, none⟩) := hc 7 20 rfl rfl
    have hk := Lib.hid (fun w1 (h : Below ω.heap.size ω w1) => hK (.agg (arrK .i64 16 (dgt X2))) w1 rfl h)
    clear hK hu hc
    have hl := rp_0 (hB.out.step hb)
    have hl1 := hl.1
    have hl2 := hl.2
    go_simp
    exact hk.out _ (Below.refl _ _)
  · refine fstep_val rfl rfl (calm_step rfl fun aa ω κ hb hu hc hK => ?_)
    have h19 : aa.tmps[19]?.getD undef = .agg (arrK .i64 16 (dgt X1)) := hc 6 19 rfl rfl
    have h21 : aa.tmps[21]?.getD undef = .agg (arrK .i64 16 (dgt X2)) := hc 8 21 rfl rfl
    have hk := Lib.hid (fun w1 (h : Below ω.heap.size ω w1) => hK (.agg (arrK .i64 16 (dgt vc))) w1 rfl h)
    clear hK hu hc
    go_simp
    go_at_call 25
    refine (kvc.out _).mono ?_
    rintro e w1 ⟨rfl, hb1⟩
    exact hk.out _ hb1
  · refine fstep_val rfl rfl (calm_step rfl fun aa ω κ hb hu hc hK => ?_)
    have h2 : aa.tmps[2]?.getD undef = .pointer (some ⟨w.heap.size, 0, none⟩) := (hu 2 rfl).trans e2
    have hk := Lib.hid (fun w1 (h : Below ω.heap.size ω w1) => hK (.pointer (some ⟨w.heap.size, 16, none⟩)) w1 rfl h)
    clear hK hu hc
    go_simp
    exact hk.out _ (Below.refl _ _)
  · refine fstep_val rfl rfl (calm_step rfl fun aa ω κ hb hu hc hK => ?_)
    have h23 : aa.tmps[23]?.getD undef = .pointer (some ⟨w.heap.size, 16, none⟩) := hc 10 23 rfl rfl
    have hk := Lib.hid (fun w1 (h : Below ω.heap.size ω w1) => hK (.agg (arrK .i64 16 (dgt Y1))) w1 rfl h)
    clear hK hu hc
    have hl := rp_1 (hA.out.step hb)
    have hl1 := hl.1
    have hl2 := hl.2
    go_simp
    exact hk.out _ (Below.refl _ _)
  · refine fstep_val rfl rfl (calm_step rfl fun aa ω κ hb hu hc hK => ?_)
    have h3 : aa.tmps[3]?.getD undef = .pointer (some ⟨w.heap.size + 1, 0, none⟩) := (hu 3 rfl).trans e3
    have hk := Lib.hid (fun w1 (h : Below ω.heap.size ω w1) => hK (.pointer (some ⟨w.heap.size + 1, 16, none⟩)) w1 rfl h)
    clear hK hu hc
    go_simp
    exact hk.out _ (Below.refl _ _)
  · refine fstep_val rfl rfl (calm_step rfl fun aa ω κ hb hu hc hK => ?_)
    have h25 : aa.tmps[25]?.getD undef = .pointer (some ⟨w.heap.size + 1, 16, none⟩) := hc 12 25 rfl rfl
    have hk := Lib.hid (fun w1 (h : Below ω.heap.size ω w1) => hK (.agg (arrK .i64 16 (dgt Y2))) w1 rfl h)
    clear hK hu hc
    have hl := rp_1 (hB.out.step hb)
    have hl1 := hl.1
    have hl2 := hl.2
    go_simp
    exact hk.out _ (Below.refl _ _)
  · refine fstep_val rfl rfl (calm_step rfl fun aa ω κ hb hu hc hK => ?_)
    have h24 : aa.tmps[24]?.getD undef = .agg (arrK .i64 16 (dgt Y1)) := hc 11 24 rfl rfl
    have h26 : aa.tmps[26]?.getD undef = .agg (arrK .i64 16 (dgt Y2)) := hc 13 26 rfl rfl
    have hk := Lib.hid (fun w1 (h : Below ω.heap.size ω w1) => hK (.agg (arrK .i64 16 (dgt vd))) w1 rfl h)
    clear hK hu hc
    go_simp
    go_at_call 25
    refine (kvd.out _).mono ?_
    rintro e w1 ⟨rfl, hb1⟩
    exact hk.out _ hb1
  · refine fstep_al (n := 16) rfl rfl fun aa ω κ hK => ?_
    have hk := Lib.hid hK
    clear hK
    go_simp
    exact hk.out _ _ hc0
  · refine fstep_al (n := 16) rfl rfl fun aa ω κ hK => ?_
    have hk := Lib.hid hK
    clear hK
    go_simp
    exact hk.out _ _ hc0
  · refine fstep_al (n := 16) rfl rfl fun aa ω κ hK => ?_
    have hk := Lib.hid hK
    clear hK
    go_simp
    exact hk.out _ _ hc0
  · refine fstep_st (j := 15) (n := 16) (d := 5) rfl rfl rfl rfl rfl hcva.1 rfl rfl fun aa ω κ g hb hu hc hp hr hK => ?_
    have h17 : aa.tmps[17]?.getD undef = .agg (arrK .i64 16 (dgt va)) := hc 4 17 rfl rfl
    have hk := Lib.hid hK
    clear hK hu hc
    have hcc := hcva
    go_simp
    exact hk.out undef
  · refine fstep_st (j := 16) (n := 16) (d := 6) rfl rfl rfl rfl rfl hcvc.1 rfl rfl fun aa ω κ g hb hu hc hp hr hK => ?_
    have h22 : aa.tmps[22]?.getD undef = .agg (arrK .i64 16 (dgt vc)) := hc 9 22 rfl rfl
    have hk := Lib.hid hK
    clear hK hu hc
    have hcc := hcvc
    go_simp
    exact hk.out undef
  · refine fstep_st (j := 17) (n := 16) (d := 7) rfl rfl rfl rfl rfl hcvd.1 rfl rfl fun aa ω κ g hb hu hc hp hr hK => ?_
    have h27 : aa.tmps[27]?.getD undef = .agg (arrK .i64 16 (dgt vd)) := hc 14 27 rfl rfl
    have hk := Lib.hid hK
    clear hK hu hc
    have hcc := hcvd
    go_simp
    exact hk.out undef
  · intro a1 w1 G I
    have ha0 := hha0.out
    subst ha0
    have he := act_patch (n := 69) [false, false, false, false, false, true, true, true, false, false, false, false, false, true, true, true, true, true, true, true, true, true, true, true, true, true, true, true, false, false, false, false, false, false, false, false, false, false, false, false, false, false, false, false, false, false, false, false, false, false, false, false, false, false, false, false, false, false, false, false, false, false, false, false, false, false, false, false, false] rfl (by kernel_rfl) I.un I.sz I.df
    simp only [patch, cond_true, cond_false, Nat.reduceAdd] at he
    have hal5 := I.al 15 5 16 rfl rfl rfl
    have hal6 := I.al 16 6 16 rfl rfl rfl
    have hal7 := I.al 17 7 16 rfl rfl rfl
    replace hA := Lib.hid (hA.out.step I.bel)
    replace hB := Lib.hid (hB.out.step I.bel)
    replace hR := Lib.hid (row_below hR.out I.bel hR.out.lt)
    replace hL := Lib.hid (below_step I.bel hL.out (Nat.le_refl _))
    have hX5 := Lib.hid (show At w1 (G 15) .i64 16 (dgt va) from ⟨(I.blk 15 16 rfl rfl).2, (I.row 18 15 rfl rfl).2.2⟩)
    have hX6 := Lib.hid (show At w1 (G 16) .i64 16 (dgt vc) from ⟨(I.blk 16 16 rfl rfl).2, (I.row 19 16 rfl rfl).2.2⟩)
    have hX7 := Lib.hid (show At w1 (G 17) .i64 16 (dgt vd) from ⟨(I.blk 17 16 rfl rfl).2, (I.row 20 17 rfl rfl).2.2⟩)
    clear kva kvc kvd
    clear I hz0 hha0 e2 e3
    rw [he]
    clear he
    rw [hal5]
    rw [hal6]
    rw [hal7]
    clear hal5 hal6 hal7
    generalize a1.tmps[13]?.getD undef = x13 at *
    generalize a1.tmps[14]?.getD undef = x14 at *
    generalize a1.tmps[15]?.getD undef = x15 at *
    generalize a1.tmps[16]?.getD undef = x16 at *
    generalize a1.tmps[17]?.getD undef = x17 at *
    generalize a1.tmps[18]?.getD undef = x18 at *
    generalize a1.tmps[19]?.getD undef = x19 at *
    generalize a1.tmps[20]?.getD undef = x20 at *
    generalize a1.tmps[21]?.getD undef = x21 at *
    generalize a1.tmps[22]?.getD undef = x22 at *
    generalize a1.tmps[23]?.getD undef = x23 at *
    generalize a1.tmps[24]?.getD undef = x24 at *
    generalize a1.tmps[25]?.getD undef = x25 at *
    generalize a1.tmps[26]?.getD undef = x26 at *
    generalize a1.tmps[27]?.getD undef = x27 at *
    obtain ⟨g5, hgz⟩ : ∃ g, G 15 = g := ⟨_, rfl⟩
    rw [hgz] at hX5 ⊢
    clear hgz
    obtain ⟨g6, hgz⟩ : ∃ g, G 16 = g := ⟨_, rfl⟩
    rw [hgz] at hX6 ⊢
    clear hgz
    obtain ⟨g7, hgz⟩ : ∃ g, G 17 = g := ⟨_, rfl⟩
    rw [hgz] at hX7 ⊢
    clear hgz
    generalize w1 = W1 at *
    go_upto_region 2 with (fail)
    generalize ha0 : Act.mk _ _ = a0
    have e5 : a0.tmps[5]?.getD undef = .pointer (some ⟨g5, 0, none⟩) := by rw [← ha0]; rfl
    have e6 : a0.tmps[6]?.getD undef = .pointer (some ⟨g6, 0, none⟩) := by rw [← ha0]; rfl
    have e7 : a0.tmps[7]?.getD undef = .pointer (some ⟨g7, 0, none⟩) := by rw [← ha0]; rfl
    have hz0 : a0.tmps.size = 69 := by rw [← ha0]; rfl
    have hha0 := Lib.hid ha0
    clear ha0
    refine wp_region_fresh ⟨fun jx_ => match jx_ with | 0 => some (.agg (arrK .i64 16 (dgt va))) | 1 => some (.agg (arrK .i64 16 (dgt va))) | 2 => some (.agg (arrK .i64 16 (dgt vb))) | 3 => some (.agg (arrK .i64 16 (dgt dn))) | 4 => some (.agg (arrK .i64 16 (dgt vc))) | 5 => some (.agg (arrK .i64 16 (dgt ve0))) | 6 => some (.agg (arrK .i64 16 (dgt vd))) | 7 => some (.agg (arrK .i64 16 (dgt ve))) | _ => none, fun jx_ => match jx_ with | 8 => some 16 | 9 => some 16 | _ => none, fun jx_ => match jx_ with | 10 => some 8 | 11 => some 9 | _ => none, fun jx_ => match jx_ with | 10 => arrK .i64 16 (dgt vb) | 11 => arrK .i64 16 (dgt ve) | _ => #[]⟩ (by kernel_rfl) (by kernel_rfl) (by kernel_rfl) (slotsOk_of hz0 (by kernel_rfl)) rfl ⟨?_, ?_, ?_, ?_, ?_, ?_, ?_, ?_, ?_, ?_, ?_, ?_, trivial⟩ ?_
    · refine fstep_val rfl rfl (calm_step rfl fun aa ω κ hb hu hc hK => ?_)
      have h5 : aa.tmps[5]?.getD undef = .pointer (some ⟨g5, 0, none⟩) := (hu 5 rfl).trans e5
      have hk := Lib.hid (fun w1 (h : Below ω.heap.size ω w1) => hK (.agg (arrK .i64 16 (dgt va))) w1 rfl h)
      clear hK hu hc
      have hr1 := (hX5.out.step hb).row
      have hr2 := (hX5.out.step hb).eq
      go_simp
      exact hk.out _ (Below.refl _ _)
    · refine fstep_val rfl rfl (calm_step rfl fun aa ω κ hb hu hc hK => ?_)
      have h5 : aa.tmps[5]?.getD undef = .pointer (some ⟨g5, 0, none⟩) := (hu 5 rfl).trans e5
      have hk := Lib.hid (fun w1 (h : Below ω.heap.size ω w1) => hK (.agg (arrK .i64 16 (dgt va))) w1 rfl h)
      clear hK hu hc
      have hr1 := (hX5.out.step hb).row
      have hr2 := (hX5.out.step hb).eq
      go_simp
      exact hk.out _ (Below.refl _ _)
    · refine fstep_val rfl rfl (calm_step rfl fun aa ω κ hb hu hc hK => ?_)
      have h28 : aa.tmps[28]?.getD undef = .agg (arrK .i64 16 (dgt va)) := hc 0 28 rfl rfl
      have h29 : aa.tmps[29]?.getD undef = .agg (arrK .i64 16 (dgt va)) := hc 1 29 rfl rfl
      have hk := Lib.hid (fun w1 (h : Below ω.heap.size ω w1) => hK (.agg (arrK .i64 16 (dgt vb))) w1 rfl h)
      clear hK hu hc
      go_simp
      go_at_call 25
      refine (kvb.out _).mono ?_
      rintro e w1 ⟨rfl, hb1⟩
      exact hk.out _ hb1
    · refine fstep_val rfl rfl (calm_step rfl fun aa ω κ hb hu hc hK => ?_)
      have hk := Lib.hid (fun w1 (h : Below ω.heap.size ω w1) => hK (.agg (arrK .i64 16 (dgt dn))) w1 rfl h)
      clear hK hu hc
      go_simp
      go_at_call 105
      refine (kd.out _).mono ?_
      rintro e w1 ⟨rfl, hb1⟩
      exact hk.out _ hb1
    · refine fstep_val rfl rfl (calm_step rfl fun aa ω κ hb hu hc hK => ?_)
      have h6 : aa.tmps[6]?.getD undef = .pointer (some ⟨g6, 0, none⟩) := (hu 6 rfl).trans e6
      have hk := Lib.hid (fun w1 (h : Below ω.heap.size ω w1) => hK (.agg (arrK .i64 16 (dgt vc))) w1 rfl h)
      clear hK hu hc
      have hr1 := (hX6.out.step hb).row
      have hr2 := (hX6.out.step hb).eq
      go_simp
      exact hk.out _ (Below.refl _ _)
    · refine fstep_val rfl rfl (calm_step rfl fun aa ω κ hb hu hc hK => ?_)
      have h31 : aa.tmps[31]?.getD undef = .agg (arrK .i64 16 (dgt dn)) := hc 3 31 rfl rfl
      have h32 : aa.tmps[32]?.getD undef = .agg (arrK .i64 16 (dgt vc)) := hc 4 32 rfl rfl
      have hk := Lib.hid (fun w1 (h : Below ω.heap.size ω w1) => hK (.agg (arrK .i64 16 (dgt ve0))) w1 rfl h)
      clear hK hu hc
      go_simp
      go_at_call 25
      refine (kve0.out _).mono ?_
      rintro e w1 ⟨rfl, hb1⟩
      exact hk.out _ hb1
    · refine fstep_val rfl rfl (calm_step rfl fun aa ω κ hb hu hc hK => ?_)
      have h7 : aa.tmps[7]?.getD undef = .pointer (some ⟨g7, 0, none⟩) := (hu 7 rfl).trans e7
      have hk := Lib.hid (fun w1 (h : Below ω.heap.size ω w1) => hK (.agg (arrK .i64 16 (dgt vd))) w1 rfl h)
      clear hK hu hc
      have hr1 := (hX7.out.step hb).row
      have hr2 := (hX7.out.step hb).eq
      go_simp
      exact hk.out _ (Below.refl _ _)
    · refine fstep_val rfl rfl (calm_step rfl fun aa ω κ hb hu hc hK => ?_)
      have h33 : aa.tmps[33]?.getD undef = .agg (arrK .i64 16 (dgt ve0)) := hc 5 33 rfl rfl
      have h34 : aa.tmps[34]?.getD undef = .agg (arrK .i64 16 (dgt vd)) := hc 6 34 rfl rfl
      have hk := Lib.hid (fun w1 (h : Below ω.heap.size ω w1) => hK (.agg (arrK .i64 16 (dgt ve))) w1 rfl h)
      clear hK hu hc
      go_simp
      go_at_call 25
      refine (kve.out _).mono ?_
      rintro e w1 ⟨rfl, hb1⟩
      exact hk.out _ hb1
    · refine fstep_al (n := 16) rfl rfl fun aa ω κ hK => ?_
      have hk := Lib.hid hK
      clear hK
      go_simp
      exact hk.out _ _ hc0
    · refine fstep_al (n := 16) rfl rfl fun aa ω κ hK => ?_
      have hk := Lib.hid hK
      clear hK
      go_simp
      exact hk.out _ _ hc0
    · refine fstep_st (j := 8) (n := 16) (d := 8) rfl rfl rfl rfl rfl hcvb.1 rfl rfl fun aa ω κ g hb hu hc hp hr hK => ?_
      have h30 : aa.tmps[30]?.getD undef = .agg (arrK .i64 16 (dgt vb)) := hc 2 30 rfl rfl
      have hk := Lib.hid hK
      clear hK hu hc
      have hcc := hcvb
      go_simp
      exact hk.out undef
    · refine fstep_st (j := 9) (n := 16) (d := 9) rfl rfl rfl rfl rfl hcve.1 rfl rfl fun aa ω κ g hb hu hc hp hr hK => ?_
      have h35 : aa.tmps[35]?.getD undef = .agg (arrK .i64 16 (dgt ve)) := hc 7 35 rfl rfl
      have hk := Lib.hid hK
      clear hK hu hc
      have hcc := hcve
      go_simp
      exact hk.out undef
    · intro a1 w1 G I
      have ha0 := hha0.out
      subst ha0
      have he := act_patch (n := 69) [false, false, false, false, false, false, false, false, true, true, false, false, false, false, false, false, false, false, false, false, false, false, false, false, false, false, false, false, true, true, true, true, true, true, true, true, false, false, false, false, false, false, false, false, false, false, false, false, false, false, false, false, false, false, false, false, false, false, false, false, false, false, false, false, false, false, false, false, false] rfl (by kernel_rfl) I.un I.sz I.df
      simp only [patch, cond_true, cond_false, Nat.reduceAdd] at he
      have hal8 := I.al 8 8 16 rfl rfl rfl
      have hal9 := I.al 9 9 16 rfl rfl rfl
      replace hA := Lib.hid (hA.out.step I.bel)
      replace hB := Lib.hid (hB.out.step I.bel)
      replace hR := Lib.hid (row_below hR.out I.bel hR.out.lt)
      replace hL := Lib.hid (below_step I.bel hL.out (Nat.le_refl _))
      replace hX5 := Lib.hid (hX5.out.step I.bel)
      replace hX6 := Lib.hid (hX6.out.step I.bel)
      replace hX7 := Lib.hid (hX7.out.step I.bel)
      have hX8 := Lib.hid (show At w1 (G 8) .i64 16 (dgt vb) from ⟨(I.blk 8 16 rfl rfl).2, (I.row 10 8 rfl rfl).2.2⟩)
      have hX9 := Lib.hid (show At w1 (G 9) .i64 16 (dgt ve) from ⟨(I.blk 9 16 rfl rfl).2, (I.row 11 9 rfl rfl).2.2⟩)
      clear kvb kd kve0 kve
      clear I hz0 hha0 e5 e6 e7
      rw [he]
      clear he
      rw [hal8]
      rw [hal9]
      clear hal8 hal9
      generalize a1.tmps[28]?.getD undef = x28 at *
      generalize a1.tmps[29]?.getD undef = x29 at *
      generalize a1.tmps[30]?.getD undef = x30 at *
      generalize a1.tmps[31]?.getD undef = x31 at *
      generalize a1.tmps[32]?.getD undef = x32 at *
      generalize a1.tmps[33]?.getD undef = x33 at *
      generalize a1.tmps[34]?.getD undef = x34 at *
      generalize a1.tmps[35]?.getD undef = x35 at *
      obtain ⟨g8, hgz⟩ : ∃ g, G 8 = g := ⟨_, rfl⟩
      rw [hgz] at hX8 ⊢
      clear hgz
      obtain ⟨g9, hgz⟩ : ∃ g, G 9 = g := ⟨_, rfl⟩
      rw [hgz] at hX9 ⊢
      clear hgz
      generalize w1 = W2 at *
      go_upto_region 3 with (fail)
      generalize ha0 : Act.mk _ _ = a0
      have e8 : a0.tmps[8]?.getD undef = .pointer (some ⟨g8, 0, none⟩) := by rw [← ha0]; rfl
      have e9 : a0.tmps[9]?.getD undef = .pointer (some ⟨g9, 0, none⟩) := by rw [← ha0]; rfl
      have hz0 : a0.tmps.size = 69 := by rw [← ha0]; rfl
      have hha0 := Lib.hid ha0
      clear ha0
      refine wp_region_fresh ⟨fun jx_ => match jx_ with | 0 => some (.agg (arrK .i64 16 (dgt vb))) | 1 => some (.agg (arrK .i64 16 (dgt ve))) | 2 => some (.agg (arrK .i64 16 (dgt vf))) | 3 => some (.agg (arrK .i64 16 (dgt vb))) | 4 => some (.agg (arrK .i64 16 (dgt ve))) | 5 => some (.agg (arrK .i64 16 (dgt vg))) | _ => none, fun jx_ => match jx_ with | 6 => some 16 | 7 => some 16 | _ => none, fun jx_ => match jx_ with | 8 => some 6 | 9 => some 7 | _ => none, fun jx_ => match jx_ with | 8 => arrK .i64 16 (dgt vf) | 9 => arrK .i64 16 (dgt vg) | _ => #[]⟩ (by kernel_rfl) (by kernel_rfl) (by kernel_rfl) (slotsOk_of hz0 (by kernel_rfl)) rfl ⟨?_, ?_, ?_, ?_, ?_, ?_, ?_, ?_, ?_, ?_, trivial⟩ ?_
      · refine fstep_val rfl rfl (calm_step rfl fun aa ω κ hb hu hc hK => ?_)
        have h8 : aa.tmps[8]?.getD undef = .pointer (some ⟨g8, 0, none⟩) := (hu 8 rfl).trans e8
        have hk := Lib.hid (fun w1 (h : Below ω.heap.size ω w1) => hK (.agg (arrK .i64 16 (dgt vb))) w1 rfl h)
        clear hK hu hc
        have hr1 := (hX8.out.step hb).row
        have hr2 := (hX8.out.step hb).eq
        go_simp
        exact hk.out _ (Below.refl _ _)
      · refine fstep_val rfl rfl (calm_step rfl fun aa ω κ hb hu hc hK => ?_)
        have h9 : aa.tmps[9]?.getD undef = .pointer (some ⟨g9, 0, none⟩) := (hu 9 rfl).trans e9
        have hk := Lib.hid (fun w1 (h : Below ω.heap.size ω w1) => hK (.agg (arrK .i64 16 (dgt ve))) w1 rfl h)
        clear hK hu hc
        have hr1 := (hX9.out.step hb).row
        have hr2 := (hX9.out.step hb).eq
        go_simp
        exact hk.out _ (Below.refl _ _)
      · refine fstep_val rfl rfl (calm_step rfl fun aa ω κ hb hu hc hK => ?_)
        have h36 : aa.tmps[36]?.getD undef = .agg (arrK .i64 16 (dgt vb)) := hc 0 36 rfl rfl
        have h37 : aa.tmps[37]?.getD undef = .agg (arrK .i64 16 (dgt ve)) := hc 1 37 rfl rfl
        have hk := Lib.hid (fun w1 (h : Below ω.heap.size ω w1) => hK (.agg (arrK .i64 16 (dgt vf))) w1 rfl h)
        clear hK hu hc
        go_simp
        go_at_call 23
        refine (kvf.out _).mono ?_
        rintro e w1 ⟨rfl, hb1⟩
        exact hk.out _ hb1
      · refine fstep_val rfl rfl (calm_step rfl fun aa ω κ hb hu hc hK => ?_)
        have h8 : aa.tmps[8]?.getD undef = .pointer (some ⟨g8, 0, none⟩) := (hu 8 rfl).trans e8
        have hk := Lib.hid (fun w1 (h : Below ω.heap.size ω w1) => hK (.agg (arrK .i64 16 (dgt vb))) w1 rfl h)
        clear hK hu hc
        have hr1 := (hX8.out.step hb).row
        have hr2 := (hX8.out.step hb).eq
        go_simp
        exact hk.out _ (Below.refl _ _)
      · refine fstep_val rfl rfl (calm_step rfl fun aa ω κ hb hu hc hK => ?_)
        have h9 : aa.tmps[9]?.getD undef = .pointer (some ⟨g9, 0, none⟩) := (hu 9 rfl).trans e9
        have hk := Lib.hid (fun w1 (h : Below ω.heap.size ω w1) => hK (.agg (arrK .i64 16 (dgt ve))) w1 rfl h)
        clear hK hu hc
        have hr1 := (hX9.out.step hb).row
        have hr2 := (hX9.out.step hb).eq
        go_simp
        exact hk.out _ (Below.refl _ _)
      · refine fstep_val rfl rfl (calm_step rfl fun aa ω κ hb hu hc hK => ?_)
        have h39 : aa.tmps[39]?.getD undef = .agg (arrK .i64 16 (dgt vb)) := hc 3 39 rfl rfl
        have h40 : aa.tmps[40]?.getD undef = .agg (arrK .i64 16 (dgt ve)) := hc 4 40 rfl rfl
        have hk := Lib.hid (fun w1 (h : Below ω.heap.size ω w1) => hK (.agg (arrK .i64 16 (dgt vg))) w1 rfl h)
        clear hK hu hc
        go_simp
        go_at_call 21
        refine (kvg.out _).mono ?_
        rintro e w1 ⟨rfl, hb1⟩
        exact hk.out _ hb1
      · refine fstep_al (n := 16) rfl rfl fun aa ω κ hK => ?_
        have hk := Lib.hid hK
        clear hK
        go_simp
        exact hk.out _ _ hc0
      · refine fstep_al (n := 16) rfl rfl fun aa ω κ hK => ?_
        have hk := Lib.hid hK
        clear hK
        go_simp
        exact hk.out _ _ hc0
      · refine fstep_st (j := 6) (n := 16) (d := 10) rfl rfl rfl rfl rfl hcvf.1 rfl rfl fun aa ω κ g hb hu hc hp hr hK => ?_
        have h38 : aa.tmps[38]?.getD undef = .agg (arrK .i64 16 (dgt vf)) := hc 2 38 rfl rfl
        have hk := Lib.hid hK
        clear hK hu hc
        have hcc := hcvf
        go_simp
        exact hk.out undef
      · refine fstep_st (j := 7) (n := 16) (d := 11) rfl rfl rfl rfl rfl hcvg.1 rfl rfl fun aa ω κ g hb hu hc hp hr hK => ?_
        have h41 : aa.tmps[41]?.getD undef = .agg (arrK .i64 16 (dgt vg)) := hc 5 41 rfl rfl
        have hk := Lib.hid hK
        clear hK hu hc
        have hcc := hcvg
        go_simp
        exact hk.out undef
      · intro a1 w1 G I
        have ha0 := hha0.out
        subst ha0
        have he := act_patch (n := 69) [false, false, false, false, false, false, false, false, false, false, true, true, false, false, false, false, false, false, false, false, false, false, false, false, false, false, false, false, false, false, false, false, false, false, false, false, true, true, true, true, true, true, false, false, false, false, false, false, false, false, false, false, false, false, false, false, false, false, false, false, false, false, false, false, false, false, false, false, false] rfl (by kernel_rfl) I.un I.sz I.df
        simp only [patch, cond_true, cond_false, Nat.reduceAdd] at he
        have hal10 := I.al 6 10 16 rfl rfl rfl
        have hal11 := I.al 7 11 16 rfl rfl rfl
        replace hA := Lib.hid (hA.out.step I.bel)
        replace hB := Lib.hid (hB.out.step I.bel)
        replace hR := Lib.hid (row_below hR.out I.bel hR.out.lt)
        replace hL := Lib.hid (below_step I.bel hL.out (Nat.le_refl _))
        replace hX5 := Lib.hid (hX5.out.step I.bel)
        replace hX6 := Lib.hid (hX6.out.step I.bel)
        replace hX7 := Lib.hid (hX7.out.step I.bel)
        replace hX8 := Lib.hid (hX8.out.step I.bel)
        replace hX9 := Lib.hid (hX9.out.step I.bel)
        have hX10 := Lib.hid (show At w1 (G 6) .i64 16 (dgt vf) from ⟨(I.blk 6 16 rfl rfl).2, (I.row 8 6 rfl rfl).2.2⟩)
        have hX11 := Lib.hid (show At w1 (G 7) .i64 16 (dgt vg) from ⟨(I.blk 7 16 rfl rfl).2, (I.row 9 7 rfl rfl).2.2⟩)
        clear kvf kvg
        clear I hz0 hha0 e8 e9
        rw [he]
        clear he
        rw [hal10]
        rw [hal11]
        clear hal10 hal11
        generalize a1.tmps[36]?.getD undef = x36 at *
        generalize a1.tmps[37]?.getD undef = x37 at *
        generalize a1.tmps[38]?.getD undef = x38 at *
        generalize a1.tmps[39]?.getD undef = x39 at *
        generalize a1.tmps[40]?.getD undef = x40 at *
        generalize a1.tmps[41]?.getD undef = x41 at *
        obtain ⟨g10, hgz⟩ : ∃ g, G 6 = g := ⟨_, rfl⟩
        rw [hgz] at hX10 ⊢
        clear hgz
        obtain ⟨g11, hgz⟩ : ∃ g, G 7 = g := ⟨_, rfl⟩
        rw [hgz] at hX11 ⊢
        clear hgz
        generalize w1 = W3 at *
        go_upto_region 4 with (fail)
        generalize ha0 : Act.mk _ _ = a0
        have e2 : a0.tmps[2]?.getD undef = .pointer (some ⟨w.heap.size, 0, none⟩) := by rw [← ha0]; rfl
        have e3 : a0.tmps[3]?.getD undef = .pointer (some ⟨w.heap.size + 1, 0, none⟩) := by rw [← ha0]; rfl
        have hz0 : a0.tmps.size = 69 := by rw [← ha0]; rfl
        have hha0 := Lib.hid ha0
        clear ha0
        refine wp_region_fresh ⟨fun jx_ => match jx_ with | 0 => some (.pointer (some ⟨w.heap.size, 0, none⟩)) | 1 => some (.agg (arrK .i64 16 (dgt X1))) | 2 => some (.pointer (some ⟨w.heap.size + 1, 16, none⟩)) | 3 => some (.agg (arrK .i64 16 (dgt Y2))) | 4 => some (.agg (arrK .i64 16 (dgt vs1))) | 5 => some (.pointer (some ⟨w.heap.size, 16, none⟩)) | 6 => some (.agg (arrK .i64 16 (dgt Y1))) | 7 => some (.pointer (some ⟨w.heap.size + 1, 0, none⟩)) | 8 => some (.agg (arrK .i64 16 (dgt X2))) | 9 => some (.agg (arrK .i64 16 (dgt vs2))) | 10 => some (.agg (arrK .i64 16 (dgt vs))) | _ => none, fun jx_ => match jx_ with | 11 => some 16 | _ => none, fun jx_ => match jx_ with | 12 => some 11 | _ => none, fun jx_ => match jx_ with | 12 => arrK .i64 16 (dgt vs) | _ => #[]⟩ (by kernel_rfl) (by kernel_rfl) (by kernel_rfl) (slotsOk_of hz0 (by kernel_rfl)) rfl ⟨?_, ?_, ?_, ?_, ?_, ?_, ?_, ?_, ?_, ?_, ?_, ?_, ?_, trivial⟩ ?_
        · refine fstep_val rfl rfl (calm_step rfl fun aa ω κ hb hu hc hK => ?_)
          have h2 : aa.tmps[2]?.getD undef = .pointer (some ⟨w.heap.size, 0, none⟩) := (hu 2 rfl).trans e2
          have hk := Lib.hid (fun w1 (h : Below ω.heap.size ω w1) => hK (.pointer (some ⟨w.heap.size, 0, none⟩)) w1 rfl h)
          clear hK hu hc
          go_simp
          exact hk.out _ (Below.refl _ _)
        · refine fstep_val rfl rfl (calm_step rfl fun aa ω κ hb hu hc hK => ?_)
          have h42 : aa.tmps[42]?.getD undef = .pointer (some ⟨w.heap.size, 0, none⟩) := hc 0 42 rfl rfl
          have hk := Lib.hid (fun w1 (h : Below ω.heap.size ω w1) => hK (.agg (arrK .i64 16 (dgt X1))) w1 rfl h)
          clear hK hu hc
          have hl := rp_0 (hA.out.step hb)
          have hl1 := hl.1
          have hl2 := hl.2
          go_simp
          exact hk.out _ (Below.refl _ _)
        · refine fstep_val rfl rfl (calm_step rfl fun aa ω κ hb hu hc hK => ?_)
          have h3 : aa.tmps[3]?.getD undef = .pointer (some ⟨w.heap.size + 1, 0, none⟩) := (hu 3 rfl).trans e3
          have hk := Lib.hid (fun w1 (h : Below ω.heap.size ω w1) => hK (.pointer (some ⟨w.heap.size + 1, 16, none⟩)) w1 rfl h)
          clear hK hu hc
          go_simp
          exact hk.out _ (Below.refl _ _)
        · refine fstep_val rfl rfl (calm_step rfl fun aa ω κ hb hu hc hK => ?_)
          have h44 : aa.tmps[44]?.getD undef = .pointer (some ⟨w.heap.size + 1, 16, none⟩) := hc 2 44 rfl rfl
          have hk := Lib.hid (fun w1 (h : Below ω.heap.size ω w1) => hK (.agg (arrK .i64 16 (dgt Y2))) w1 rfl h)
          clear hK hu hc
          have hl := rp_1 (hB.out.step hb)
          have hl1 := hl.1
          have hl2 := hl.2
          go_simp
          exact hk.out _ (Below.refl _ _)
        · refine fstep_val rfl rfl (calm_step rfl fun aa ω κ hb hu hc hK => ?_)
          have h43 : aa.tmps[43]?.getD undef = .agg (arrK .i64 16 (dgt X1)) := hc 1 43 rfl rfl
          have h45 : aa.tmps[45]?.getD undef = .agg (arrK .i64 16 (dgt Y2)) := hc 3 45 rfl rfl
          have hk := Lib.hid (fun w1 (h : Below ω.heap.size ω w1) => hK (.agg (arrK .i64 16 (dgt vs1))) w1 rfl h)
          clear hK hu hc
          go_simp
          go_at_call 25
          refine (kvs1.out _).mono ?_
          rintro e w1 ⟨rfl, hb1⟩
          exact hk.out _ hb1
        · refine fstep_val rfl rfl (calm_step rfl fun aa ω κ hb hu hc hK => ?_)
          have h2 : aa.tmps[2]?.getD undef = .pointer (some ⟨w.heap.size, 0, none⟩) := (hu 2 rfl).trans e2
          have hk := Lib.hid (fun w1 (h : Below ω.heap.size ω w1) => hK (.pointer (some ⟨w.heap.size, 16, none⟩)) w1 rfl h)
          clear hK hu hc
          go_simp
          exact hk.out _ (Below.refl _ _)
        · refine fstep_val rfl rfl (calm_step rfl fun aa ω κ hb hu hc hK => ?_)
          have h47 : aa.tmps[47]?.getD undef = .pointer (some ⟨w.heap.size, 16, none⟩) := hc 5 47 rfl rfl
          have hk := Lib.hid (fun w1 (h : Below ω.heap.size ω w1) => hK (.agg (arrK .i64 16 (dgt Y1))) w1 rfl h)
          clear hK hu hc
          have hl := rp_1 (hA.out.step hb)
          have hl1 := hl.1
          have hl2 := hl.2
          go_simp
          exact hk.out _ (Below.refl _ _)
        · refine fstep_val rfl rfl (calm_step rfl fun aa ω κ hb hu hc hK => ?_)
          have h3 : aa.tmps[3]?.getD undef = .pointer (some ⟨w.heap.size + 1, 0, none⟩) := (hu 3 rfl).trans e3
          have hk := Lib.hid (fun w1 (h : Below ω.heap.size ω w1) => hK (.pointer (some ⟨w.heap.size + 1, 0, none⟩)) w1 rfl h)
          clear hK hu hc
          go_simp
          exact hk.out _ (Below.refl _ _)
        · refine fstep_val rfl rfl (calm_step rfl fun aa ω κ hb hu hc hK => ?_)
          have h49 : aa.tmps[49]?.getD undef = .pointer (some ⟨w.heap.size + 1, 0, none⟩) := hc 7 49 rfl rfl
          have hk := Lib.hid (fun w1 (h : Below ω.heap.size ω w1) => hK (.agg (arrK .i64 16 (dgt X2))) w1 rfl h)
          clear hK hu hc
          have hl := rp_0 (hB.out.step hb)
          have hl1 := hl.1
          have hl2 := hl.2
          go_simp
          exact hk.out _ (Below.refl _ _)
        · refine fstep_val rfl rfl (calm_step rfl fun aa ω κ hb hu hc hK => ?_)
          have h48 : aa.tmps[48]?.getD undef = .agg (arrK .i64 16 (dgt Y1)) := hc 6 48 rfl rfl
          have h50 : aa.tmps[50]?.getD undef = .agg (arrK .i64 16 (dgt X2)) := hc 8 50 rfl rfl
          have hk := Lib.hid (fun w1 (h : Below ω.heap.size ω w1) => hK (.agg (arrK .i64 16 (dgt vs2))) w1 rfl h)
          clear hK hu hc
          go_simp
          go_at_call 25
          refine (kvs2.out _).mono ?_
          rintro e w1 ⟨rfl, hb1⟩
          exact hk.out _ hb1
        · refine fstep_val rfl rfl (calm_step rfl fun aa ω κ hb hu hc hK => ?_)
          have h46 : aa.tmps[46]?.getD undef = .agg (arrK .i64 16 (dgt vs1)) := hc 4 46 rfl rfl
          have h51 : aa.tmps[51]?.getD undef = .agg (arrK .i64 16 (dgt vs2)) := hc 9 51 rfl rfl
          have hk := Lib.hid (fun w1 (h : Below ω.heap.size ω w1) => hK (.agg (arrK .i64 16 (dgt vs))) w1 rfl h)
          clear hK hu hc
          go_simp
          go_at_call 21
          refine (kvs.out _).mono ?_
          rintro e w1 ⟨rfl, hb1⟩
          exact hk.out _ hb1
        · refine fstep_al (n := 16) rfl rfl fun aa ω κ hK => ?_
          have hk := Lib.hid hK
          clear hK
          go_simp
          exact hk.out _ _ hc0
        · refine fstep_st (j := 11) (n := 16) (d := 12) rfl rfl rfl rfl rfl hcvs.1 rfl rfl fun aa ω κ g hb hu hc hp hr hK => ?_
          have h52 : aa.tmps[52]?.getD undef = .agg (arrK .i64 16 (dgt vs)) := hc 10 52 rfl rfl
          have hk := Lib.hid hK
          clear hK hu hc
          have hcc := hcvs
          go_simp
          exact hk.out undef
        · intro a1 w1 G I
          have ha0 := hha0.out
          subst ha0
          have he := act_patch (n := 69) [false, false, false, false, false, false, false, false, false, false, false, false, true, false, false, false, false, false, false, false, false, false, false, false, false, false, false, false, false, false, false, false, false, false, false, false, false, false, false, false, false, false, true, true, true, true, true, true, true, true, true, true, true, false, false, false, false, false, false, false, false, false, false, false, false, false, false, false, false] rfl (by kernel_rfl) I.un I.sz I.df
          simp only [patch, cond_true, cond_false, Nat.reduceAdd] at he
          have hal12 := I.al 11 12 16 rfl rfl rfl
          replace hA := Lib.hid (hA.out.step I.bel)
          replace hB := Lib.hid (hB.out.step I.bel)
          replace hR := Lib.hid (row_below hR.out I.bel hR.out.lt)
          replace hL := Lib.hid (below_step I.bel hL.out (Nat.le_refl _))
          replace hX5 := Lib.hid (hX5.out.step I.bel)
          replace hX6 := Lib.hid (hX6.out.step I.bel)
          replace hX7 := Lib.hid (hX7.out.step I.bel)
          replace hX8 := Lib.hid (hX8.out.step I.bel)
          replace hX9 := Lib.hid (hX9.out.step I.bel)
          replace hX10 := Lib.hid (hX10.out.step I.bel)
          replace hX11 := Lib.hid (hX11.out.step I.bel)
          have hX12 := Lib.hid (show At w1 (G 11) .i64 16 (dgt vs) from ⟨(I.blk 11 16 rfl rfl).2, (I.row 12 11 rfl rfl).2.2⟩)
          clear kvs1 kvs2 kvs
          clear I hz0 hha0 e2 e3
          rw [he]
          clear he
          rw [hal12]
          clear hal12
          generalize a1.tmps[42]?.getD undef = x42 at *
          generalize a1.tmps[43]?.getD undef = x43 at *
          generalize a1.tmps[44]?.getD undef = x44 at *
          generalize a1.tmps[45]?.getD undef = x45 at *
          generalize a1.tmps[46]?.getD undef = x46 at *
          generalize a1.tmps[47]?.getD undef = x47 at *
          generalize a1.tmps[48]?.getD undef = x48 at *
          generalize a1.tmps[49]?.getD undef = x49 at *
          generalize a1.tmps[50]?.getD undef = x50 at *
          generalize a1.tmps[51]?.getD undef = x51 at *
          generalize a1.tmps[52]?.getD undef = x52 at *
          obtain ⟨g12, hgz⟩ : ∃ g, G 11 = g := ⟨_, rfl⟩
          rw [hgz] at hX12 ⊢
          clear hgz
          generalize w1 = W4 at *
          go_upto_region 5 with (fail)
          generalize ha0 : Act.mk _ _ = a0
          have e4 : a0.tmps[4]?.getD undef = .pointer (some ⟨w.heap.size + 1 + 1, 0, none⟩) := by rw [← ha0]; rfl
          have e5 : a0.tmps[5]?.getD undef = .pointer (some ⟨g5, 0, none⟩) := by rw [← ha0]; rfl
          have e6 : a0.tmps[6]?.getD undef = .pointer (some ⟨g6, 0, none⟩) := by rw [← ha0]; rfl
          have e7 : a0.tmps[7]?.getD undef = .pointer (some ⟨g7, 0, none⟩) := by rw [← ha0]; rfl
          have e10 : a0.tmps[10]?.getD undef = .pointer (some ⟨g10, 0, none⟩) := by rw [← ha0]; rfl
          have e11 : a0.tmps[11]?.getD undef = .pointer (some ⟨g11, 0, none⟩) := by rw [← ha0]; rfl
          have e12 : a0.tmps[12]?.getD undef = .pointer (some ⟨g12, 0, none⟩) := by rw [← ha0]; rfl
          have hz0 : a0.tmps.size = 69 := by rw [← ha0]; rfl
          have hha0 := Lib.hid ha0
          clear ha0
          refine wp_region_one (fun jx_ => match jx_ with | 0 => some (.agg (arrK .i64 16 (dgt va))) | 1 => some (.agg (arrK .i64 16 (dgt vf))) | 2 => some (.agg (arrK .i64 16 (dgt vu1))) | 3 => some (.agg (arrK .i64 16 (dgt vs))) | 4 => some (.agg (arrK .i64 16 (dgt r1))) | 5 => some (.agg (arrK .i64 16 (dgt va))) | 6 => some (.agg (arrK .i64 16 (dgt vg))) | 7 => some (.agg (arrK .i64 16 (dgt vu2))) | 8 => some (.agg (arrK .i64 16 (dgt vc))) | 9 => some (.agg (arrK .i64 16 (dgt vd))) | 10 => some (.agg (arrK .i64 16 (dgt vcd))) | 11 => some (.agg (arrK .i64 16 (dgt r2))) | 12 => some (.agg (arrK .i64 16 (dgt vf))) | 13 => some (.agg (arrK .i64 16 (dgt vg))) | 14 => some (.agg (arrK .i64 16 (dgt r3))) | 15 => some (.agg (arrK .i64 48 (cat3 (dgt r1) (dgt r2) (dgt r3)))) | _ => none) 16 ((w.heap.size + 1 + 1)) 48 (arrK .i64 48 (cat3 (dgt r1) (dgt r2) (dgt r3))) (by kernel_rfl) (by kernel_rfl) (by kernel_rfl) (slotsOk_of hz0 (by kernel_rfl)) (of_decide_eq_true (by kernel_rfl)) hR.out ⟨?_, ?_, ?_, ?_, ?_, ?_, ?_, ?_, ?_, ?_, ?_, ?_, ?_, ?_, ?_, ?_, ?_, trivial⟩ ?_
          · refine one_before (by decide) (by kernel_rfl) (calm_step rfl fun aa ω κ hb hu hc hK => ?_)
            have h5 : aa.tmps[5]?.getD undef = .pointer (some ⟨g5, 0, none⟩) := (hu 5 rfl).trans e5
            have hk := Lib.hid (fun w1 (h : Below ω.heap.size ω w1) => hK (.agg (arrK .i64 16 (dgt va))) w1 rfl h)
            clear hK hu hc
            have hr1 := (hX5.out.step hb).row
            have hr2 := (hX5.out.step hb).eq
            go_simp
            exact hk.out _ (Below.refl _ _)
          · refine one_before (by decide) (by kernel_rfl) (calm_step rfl fun aa ω κ hb hu hc hK => ?_)
            have h10 : aa.tmps[10]?.getD undef = .pointer (some ⟨g10, 0, none⟩) := (hu 10 rfl).trans e10
            have hk := Lib.hid (fun w1 (h : Below ω.heap.size ω w1) => hK (.agg (arrK .i64 16 (dgt vf))) w1 rfl h)
            clear hK hu hc
            have hr1 := (hX10.out.step hb).row
            have hr2 := (hX10.out.step hb).eq
            go_simp
            exact hk.out _ (Below.refl _ _)
          · refine one_before (by decide) (by kernel_rfl) (calm_step rfl fun aa ω κ hb hu hc hK => ?_)
            have h53 : aa.tmps[53]?.getD undef = .agg (arrK .i64 16 (dgt va)) := hc 0 53 rfl rfl
            have h54 : aa.tmps[54]?.getD undef = .agg (arrK .i64 16 (dgt vf)) := hc 1 54 rfl rfl
            have hk := Lib.hid (fun w1 (h : Below ω.heap.size ω w1) => hK (.agg (arrK .i64 16 (dgt vu1))) w1 rfl h)
            clear hK hu hc
            go_simp
            go_at_call 25
            refine (kvu1.out _).mono ?_
            rintro e w1 ⟨rfl, hb1⟩
            exact hk.out _ hb1
          · refine one_before (by decide) (by kernel_rfl) (calm_step rfl fun aa ω κ hb hu hc hK => ?_)
            have h12 : aa.tmps[12]?.getD undef = .pointer (some ⟨g12, 0, none⟩) := (hu 12 rfl).trans e12
            have hk := Lib.hid (fun w1 (h : Below ω.heap.size ω w1) => hK (.agg (arrK .i64 16 (dgt vs))) w1 rfl h)
            clear hK hu hc
            have hr1 := (hX12.out.step hb).row
            have hr2 := (hX12.out.step hb).eq
            go_simp
            exact hk.out _ (Below.refl _ _)
          · refine one_before (by decide) (by kernel_rfl) (calm_step rfl fun aa ω κ hb hu hc hK => ?_)
            have h55 : aa.tmps[55]?.getD undef = .agg (arrK .i64 16 (dgt vu1)) := hc 2 55 rfl rfl
            have h56 : aa.tmps[56]?.getD undef = .agg (arrK .i64 16 (dgt vs)) := hc 3 56 rfl rfl
            have hk := Lib.hid (fun w1 (h : Below ω.heap.size ω w1) => hK (.agg (arrK .i64 16 (dgt r1))) w1 rfl h)
            clear hK hu hc
            go_simp
            go_at_call 25
            refine (kr1.out _).mono ?_
            rintro e w1 ⟨rfl, hb1⟩
            exact hk.out _ hb1
          · refine one_before (by decide) (by kernel_rfl) (calm_step rfl fun aa ω κ hb hu hc hK => ?_)
            have h5 : aa.tmps[5]?.getD undef = .pointer (some ⟨g5, 0, none⟩) := (hu 5 rfl).trans e5
            have hk := Lib.hid (fun w1 (h : Below ω.heap.size ω w1) => hK (.agg (arrK .i64 16 (dgt va))) w1 rfl h)
            clear hK hu hc
            have hr1 := (hX5.out.step hb).row
            have hr2 := (hX5.out.step hb).eq
            go_simp
            exact hk.out _ (Below.refl _ _)
          · refine one_before (by decide) (by kernel_rfl) (calm_step rfl fun aa ω κ hb hu hc hK => ?_)
            have h11 : aa.tmps[11]?.getD undef = .pointer (some ⟨g11, 0, none⟩) := (hu 11 rfl).trans e11
            have hk := Lib.hid (fun w1 (h : Below ω.heap.size ω w1) => hK (.agg (arrK .i64 16 (dgt vg))) w1 rfl h)
            clear hK hu hc
            have hr1 := (hX11.out.step hb).row
            have hr2 := (hX11.out.step hb).eq
            go_simp
            exact hk.out _ (Below.refl _ _)
          · refine one_before (by decide) (by kernel_rfl) (calm_step rfl fun aa ω κ hb hu hc hK => ?_)
            have h58 : aa.tmps[58]?.getD undef = .agg (arrK .i64 16 (dgt va)) := hc 5 58 rfl rfl
            have h59 : aa.tmps[59]?.getD undef = .agg (arrK .i64 16 (dgt vg)) := hc 6 59 rfl rfl
            have hk := Lib.hid (fun w1 (h : Below ω.heap.size ω w1) => hK (.agg (arrK .i64 16 (dgt vu2))) w1 rfl h)
            clear hK hu hc
            go_simp
            go_at_call 25
            refine (kvu2.out _).mono ?_
            rintro e w1 ⟨rfl, hb1⟩
            exact hk.out _ hb1
          · refine one_before (by decide) (by kernel_rfl) (calm_step rfl fun aa ω κ hb hu hc hK => ?_)
            have h6 : aa.tmps[6]?.getD undef = .pointer (some ⟨g6, 0, none⟩) := (hu 6 rfl).trans e6
            have hk := Lib.hid (fun w1 (h : Below ω.heap.size ω w1) => hK (.agg (arrK .i64 16 (dgt vc))) w1 rfl h)
            clear hK hu hc
            have hr1 := (hX6.out.step hb).row
            have hr2 := (hX6.out.step hb).eq
            go_simp
            exact hk.out _ (Below.refl _ _)
          · refine one_before (by decide) (by kernel_rfl) (calm_step rfl fun aa ω κ hb hu hc hK => ?_)
            have h7 : aa.tmps[7]?.getD undef = .pointer (some ⟨g7, 0, none⟩) := (hu 7 rfl).trans e7
            have hk := Lib.hid (fun w1 (h : Below ω.heap.size ω w1) => hK (.agg (arrK .i64 16 (dgt vd))) w1 rfl h)
            clear hK hu hc
            have hr1 := (hX7.out.step hb).row
            have hr2 := (hX7.out.step hb).eq
            go_simp
            exact hk.out _ (Below.refl _ _)
          · refine one_before (by decide) (by kernel_rfl) (calm_step rfl fun aa ω κ hb hu hc hK => ?_)
            have h61 : aa.tmps[61]?.getD undef = .agg (arrK .i64 16 (dgt vc)) := hc 8 61 rfl rfl
            have h62 : aa.tmps[62]?.getD undef = .agg (arrK .i64 16 (dgt vd)) := hc 9 62 rfl rfl
            have hk := Lib.hid (fun w1 (h : Below ω.heap.size ω w1) => hK (.agg (arrK .i64 16 (dgt vcd))) w1 rfl h)
            clear hK hu hc
            go_simp
            go_at_call 21
            refine (kvcd.out _).mono ?_
            rintro e w1 ⟨rfl, hb1⟩
            exact hk.out _ hb1
          · refine one_before (by decide) (by kernel_rfl) (calm_step rfl fun aa ω κ hb hu hc hK => ?_)
            have h60 : aa.tmps[60]?.getD undef = .agg (arrK .i64 16 (dgt vu2)) := hc 7 60 rfl rfl
            have h63 : aa.tmps[63]?.getD undef = .agg (arrK .i64 16 (dgt vcd)) := hc 10 63 rfl rfl
            have hk := Lib.hid (fun w1 (h : Below ω.heap.size ω w1) => hK (.agg (arrK .i64 16 (dgt r2))) w1 rfl h)
            clear hK hu hc
            go_simp
            go_at_call 25
            refine (kr2.out _).mono ?_
            rintro e w1 ⟨rfl, hb1⟩
            exact hk.out _ hb1
          · refine one_before (by decide) (by kernel_rfl) (calm_step rfl fun aa ω κ hb hu hc hK => ?_)
            have h10 : aa.tmps[10]?.getD undef = .pointer (some ⟨g10, 0, none⟩) := (hu 10 rfl).trans e10
            have hk := Lib.hid (fun w1 (h : Below ω.heap.size ω w1) => hK (.agg (arrK .i64 16 (dgt vf))) w1 rfl h)
            clear hK hu hc
            have hr1 := (hX10.out.step hb).row
            have hr2 := (hX10.out.step hb).eq
            go_simp
            exact hk.out _ (Below.refl _ _)
          · refine one_before (by decide) (by kernel_rfl) (calm_step rfl fun aa ω κ hb hu hc hK => ?_)
            have h11 : aa.tmps[11]?.getD undef = .pointer (some ⟨g11, 0, none⟩) := (hu 11 rfl).trans e11
            have hk := Lib.hid (fun w1 (h : Below ω.heap.size ω w1) => hK (.agg (arrK .i64 16 (dgt vg))) w1 rfl h)
            clear hK hu hc
            have hr1 := (hX11.out.step hb).row
            have hr2 := (hX11.out.step hb).eq
            go_simp
            exact hk.out _ (Below.refl _ _)
          · refine one_before (by decide) (by kernel_rfl) (calm_step rfl fun aa ω κ hb hu hc hK => ?_)
            have h65 : aa.tmps[65]?.getD undef = .agg (arrK .i64 16 (dgt vf)) := hc 12 65 rfl rfl
            have h66 : aa.tmps[66]?.getD undef = .agg (arrK .i64 16 (dgt vg)) := hc 13 66 rfl rfl
            have hk := Lib.hid (fun w1 (h : Below ω.heap.size ω w1) => hK (.agg (arrK .i64 16 (dgt r3))) w1 rfl h)
            clear hK hu hc
            go_simp
            go_at_call 25
            refine (kr3.out _).mono ?_
            rintro e w1 ⟨rfl, hb1⟩
            exact hk.out _ hb1
          · refine one_before (by decide) (by kernel_rfl) (calm_step rfl fun aa ω κ hb hu hc hK => ?_)
            have h57 : aa.tmps[57]?.getD undef = .agg (arrK .i64 16 (dgt r1)) := hc 4 57 rfl rfl
            have h64 : aa.tmps[64]?.getD undef = .agg (arrK .i64 16 (dgt r2)) := hc 11 64 rfl rfl
            have h67 : aa.tmps[67]?.getD undef = .agg (arrK .i64 16 (dgt r3)) := hc 14 67 rfl rfl
            have hk := Lib.hid (fun w1 (h : Below ω.heap.size ω w1) => hK (.agg (arrK .i64 48 (cat3 (dgt r1) (dgt r2) (dgt r3)))) w1 rfl h)
            clear hK hu hc
            exact wp_bldC (v0 := .agg (arrK .i64 16 (dgt r1))) (v1 := .agg (arrK .i64 16 (dgt r2))) (v2 := .agg (arrK .i64 16 (dgt r3))) rfl (by go_simp) (by go_simp) (by go_simp) (build_rp _ _ _ _) (hk.out _ (Below.refl _ _))
          · refine one_q (one_write rfl rfl fun aa ω κ hb hu hc hr hK => ?_)
            have h4 : aa.tmps[4]?.getD undef = .pointer (some ⟨w.heap.size + 1 + 1, 0, none⟩) := (hu 4 rfl).trans e4
            have h68 : aa.tmps[68]?.getD undef = .agg (arrK .i64 48 (cat3 (dgt r1) (dgt r2) (dgt r3))) := hc 15 68 rfl rfl
            have hk := Lib.hid hK
            clear hK hu hc
            have hcc := hcr
            go_simp
            exact hk.out undef
          · intro a1 w1 hb1 hu1 hsz1 hdf1 hv1
            have ha0 := hha0.out
            subst ha0
            have he := act_patch (n := 69) [false, false, false, false, false, false, false, false, false, false, false, false, false, false, false, false, false, false, false, false, false, false, false, false, false, false, false, false, false, false, false, false, false, false, false, false, false, false, false, false, false, false, false, false, false, false, false, false, false, false, false, false, false, true, true, true, true, true, true, true, true, true, true, true, true, true, true, true, true] rfl (by kernel_rfl) hu1 hsz1 hdf1
            simp only [patch, cond_true, cond_false, Nat.reduceAdd] at he
            have hXz := (At.put (k := .i64) (f := (cat3 (dgt r1) (dgt r2) (dgt r3))) hR.out).below hb1 (by simpa using hR.out.lt)
            have hLz := Lib.hid (Below.trans (below_setRow (c := arrK .i64 48 (cat3 (dgt r1) (dgt r2) (dgt r3))) hL.out (by omega)) (hb1.mono (by simpa using hL.out.size)))
            clear hR hL hA hB hX5 hX6 hX7 hX8 hX9 hX10 hX11 hX12 kvu1 kr1 kvu2 kvcd kr2 kr3
            clear hb1 hu1 hsz1 hdf1 hv1 hz0 hha0 e4 e5 e6 e7 e10 e11 e12
            rw [he]
            clear he
            generalize a1.tmps[53]?.getD undef = x53 at *
            generalize a1.tmps[54]?.getD undef = x54 at *
            generalize a1.tmps[55]?.getD undef = x55 at *
            generalize a1.tmps[56]?.getD undef = x56 at *
            generalize a1.tmps[57]?.getD undef = x57 at *
            generalize a1.tmps[58]?.getD undef = x58 at *
            generalize a1.tmps[59]?.getD undef = x59 at *
            generalize a1.tmps[60]?.getD undef = x60 at *
            generalize a1.tmps[61]?.getD undef = x61 at *
            generalize a1.tmps[62]?.getD undef = x62 at *
            generalize a1.tmps[63]?.getD undef = x63 at *
            generalize a1.tmps[64]?.getD undef = x64 at *
            generalize a1.tmps[65]?.getD undef = x65 at *
            generalize a1.tmps[66]?.getD undef = x66 at *
            generalize a1.tmps[67]?.getD undef = x67 at *
            generalize a1.tmps[68]?.getD undef = x68 at *
            go_wp2_with fail
            refine ret_row (p := 4) (ty := 48) (g := (w.heap.size + 1 + 1)) rfl Try.underlying48 rfl (by kernel_rfl) rfl hXz.row rfl ?_
            rw [hXz.eq]
            exact ⟨rfl, hLz.out⟩
theorem rp_PlusQ (X1 Y1 Z1 X2 Y2 Z2 : Nat) (w : World) (hX1 : X1 < 2 ^ 256) (hY1 : Y1 < 2 ^ 256) (hZ1 : Z1 < 2 ^ 256) (hX2 : X2 < 2 ^ 256) (hY2 : Y2 < 2 ^ 256) (hZ2 : Z2 < 2 ^ 256) (r : Nat × Nat × Nat) (hr : rplus X1 Y1 Z1 X2 Y2 Z2 = r) :
    Calls Try.prog 40 #[rpV X1 Y1 Z1, rpV X2 Y2 Z2] w fun e w' => e = .returned (rpV r.1 r.2.1 r.2.2) ∧ Below w.heap.size w w' := by
  subst hr
  exact rp_Plus _ _ _ _ _ _ _ _ _ _ _ _ _ _ _ _ _ _ _ _ _ _ _ w hX1 hY1 hZ1 hX2 hY2 hZ2 rfl rfl rfl rfl rfl rfl rfl rfl rfl rfl rfl rfl rfl rfl rfl rfl rfl
theorem rplus_lt (X1 Y1 Z1 X2 Y2 Z2 : Nat) (r : Nat × Nat × Nat) (hr : rplus X1 Y1 Z1 X2 Y2 Z2 = r) : r.1 < 2 ^ 256 ∧ r.2.1 < 2 ^ 256 ∧ r.2.2 < 2 ^ 256 := by
  subst hr
  exact ⟨low_lt, low_lt, low_lt⟩
theorem dgt_inj {a b : Nat} (ha : a < 2 ^ 256) (hb : b < 2 ^ 256) : (∀ i < 16, dgt a i = dgt b i) ↔ a = b := by
  refine ⟨fun h => ?_, fun h _ _ => by rw [h]⟩
  have := dval_congr h
  rwa [dval_dgt, dval_dgt, p16, Nat.mod_eq_of_lt ha, Nat.mod_eq_of_lt hb] at this
theorem eqlFe {a b : Nat} (ha : a < 2 ^ 256) (hb : b < 2 ^ 256) {r : Bool} (h : decide (a = b) = r) (W : World) : (binOp .eql 26 (.agg (arrK .i64 16 (dgt a))) (.agg (arrK .i64 16 (dgt b)))).run Try.prog W = .ok (.bool r) W := by
  rw [run_eql_arrK Try.underlying26 Try.underlying3 (by kernel_rfl), ← h]
  congr 2
  exact decide_eq_decide.2 (dgt_inj ha hb)
theorem ref_On (x y : Nat) (w : World) (hx : x < 2 ^ 256) (hy : y < 2 ^ 256) : Calls Try.prog 29 #[ptV x y] w fun e w' => e = .returned (.bool (onR x y)) ∧ Below w.heap.size w w' := by
  have hdN := dN_lt
  have h1l : 1 < 2 ^ 256 := by decide +kernel
  have kFx := Lib.hid (fun V => ref_Field x V hx)
  have kFy := Lib.hid (fun V => ref_Field y V hy)
  have kNx := Lib.hid (fun V => fe_Num (x % fP) V low_lt)
  have kNy := Lib.hid (fun V => fe_Num (y % fP) V low_lt)
  have h1 := Lib.hid (fun V => ref_small 1 V (by omega))
  have hqx := Lib.hid (fun (r : Bool) (h : decide (x % fP = x) = !r) V => neqOf low_lt hx h V)
  have hqy := Lib.hid (fun (r : Bool) (h : decide (y % fP = y) = !r) V => neqOf low_lt hy h V)
  have lpx : x % fP < 2 ^ 256 := low_lt
  have lpy : y % fP < 2 ^ 256 := low_lt
  unfold onR
  obtain ⟨px, hpx⟩ : ∃ d, x % fP = d := ⟨_, rfl⟩
  obtain ⟨py, hpy⟩ : ∃ d, y % fP = d := ⟨_, rfl⟩
  rw [hpx] at kFx kNx hqx lpx ⊢
  rw [hpy] at kFy kNy hqy lpy ⊢
  obtain ⟨xx, hxx⟩ : ∃ v, px * px % fP = v := ⟨_, rfl⟩
  rw [hxx]
  have lxx : xx < 2 ^ 256 := hxx ▸ low_lt
  obtain ⟨yy, hyy⟩ : ∃ v, py * py % fP = v := ⟨_, rfl⟩
  rw [hyy]
  have lyy : yy < 2 ^ 256 := hyy ▸ low_lt
  obtain ⟨p1, hp1⟩ : ∃ v, (1 + xx) % fP = v := ⟨_, rfl⟩
  rw [hp1]
  have lp1 : p1 < 2 ^ 256 := hp1 ▸ low_lt
  obtain ⟨q1, hq1⟩ : ∃ v, dN * xx % fP = v := ⟨_, rfl⟩
  rw [hq1]
  have lq1 : q1 < 2 ^ 256 := hq1 ▸ low_lt
  obtain ⟨q2, hq2⟩ : ∃ v, q1 * yy % fP = v := ⟨_, rfl⟩
  rw [hq2]
  have lq2 : q2 < 2 ^ 256 := hq2 ▸ low_lt
  obtain ⟨sm, hsm⟩ : ∃ v, (p1 + q2) % fP = v := ⟨_, rfl⟩
  rw [hsm]
  have lsm : sm < 2 ^ 256 := hsm ▸ low_lt
  have kxx := Lib.hid (fun V => fe_By px px V lpx lpx)
  rw [hxx] at kxx
  have kyy := Lib.hid (fun V => fe_By py py V lpy lpy)
  rw [hyy] at kyy
  have kp1 := Lib.hid (fun V => fe_Plus 1 xx V h1l lxx)
  rw [hp1] at kp1
  have kq1 := Lib.hid (fun V => fe_By dN xx V hdN lxx)
  rw [hq1] at kq1
  have kq2 := Lib.hid (fun V => fe_By q1 yy V lq1 lyy)
  rw [hq2] at kq2
  have ksm := Lib.hid (fun V => fe_Plus p1 q2 V lp1 lq2)
  rw [hsm] at ksm
  have hqe := Lib.hid (fun (r : Bool) (h : decide (yy = sm) = r) V => eqlFe lyy lsm h V)
  have kd := Lib.hid (fun V => ref_dOf V)
  obtain ⟨dn, hdn⟩ : ∃ d, dN = d := ⟨_, rfl⟩
  rw [hdn] at kd kq1
  obtain ⟨R, hRR'⟩ : ∃ R : Bool, (decide (px = x) && decide (py = y) && decide (yy = sm)) = R := ⟨_, rfl⟩
  rw [hRR']
  have hRR := Lib.hid hRR'
  clear hRR' hdn hdN hpx hpy hx hy h1l lpx lpy hxx lxx hyy lyy hp1 lp1 hq1 lq1 hq2 lq2 hsm lsm
  unfold numV feV at kFx kFy kNx kNy
  unfold feV at h1 kd kxx kyy kp1 kq1 kq2 ksm
  rw [show ((1 : Nat) : Int) = 1 from rfl] at h1
  unfold ptV
  have hcpx := arrK_cells .i64 16 (dgt px)
  have hcpy := arrK_cells .i64 16 (dgt py)
  have hcxx := arrK_cells .i64 16 (dgt xx)
  have hcyy := arrK_cells .i64 16 (dgt yy)
  have hc0 := arrK_cells .i64 16 fun _ => 0
  have hL0 : Below w.heap.size w (w.alloc (Obj.cells (arrK .u64 8 (cat2 (wd x) (wd y))) 42)) := by go_grown
  have hA0 : At (w.alloc (Obj.cells (arrK .u64 8 (cat2 (wd x) (wd y))) 42)) w.heap.size .u64 8 (cat2 (wd x) (wd y)) := At.new _ rfl
  have hL := Lib.hid hL0
  have hA := Lib.hid hA0
  clear hL0 hA0
  go_enter Try.func29, Try.ntmps29
  go_upto_region 1 with (fail)
  generalize w.alloc _ = W0 at *
  generalize ha0 : Act.mk _ _ = a0
  have e1 : a0.tmps[1]?.getD undef = .pointer (some ⟨w.heap.size, 0, none⟩) := by rw [← ha0]; rfl
  have hz0 : a0.tmps.size = 42 := by rw [← ha0]; rfl
  have hha0 := Lib.hid ha0
  clear ha0
  refine wp_region_fresh ⟨fun jx_ => match jx_ with | 0 => some (.pointer (some ⟨w.heap.size, 0, none⟩)) | 1 => some (.agg (arrK .u64 4 (wd x))) | 2 => some (.agg (arrK .i64 16 (dgt px))) | 3 => some (.pointer (some ⟨w.heap.size, 4, none⟩)) | 4 => some (.agg (arrK .u64 4 (wd y))) | 5 => some (.agg (arrK .i64 16 (dgt py))) | _ => none, fun jx_ => match jx_ with | 6 => some 16 | 7 => some 16 | _ => none, fun jx_ => match jx_ with | 8 => some 6 | 9 => some 7 | _ => none, fun jx_ => match jx_ with | 8 => arrK .i64 16 (dgt px) | 9 => arrK .i64 16 (dgt py) | _ => #[]⟩ (by kernel_rfl) (by kernel_rfl) (by kernel_rfl) (slotsOk_of hz0 (by kernel_rfl)) rfl ⟨?_, ?_, ?_, ?_, ?_, ?_, ?_, ?_, ?_, ?_, trivial⟩ ?_
  · refine fstep_val rfl rfl (calm_step rfl fun aa ω κ hb hu hc hK => ?_)
    have h1 : aa.tmps[1]?.getD undef = .pointer (some ⟨w.heap.size, 0, none⟩) := (hu 1 rfl).trans e1
    have hk := Lib.hid (fun w1 (h : Below ω.heap.size ω w1) => hK (.pointer (some ⟨w.heap.size, 0, none⟩)) w1 rfl h)
    clear hK hu hc
    go_simp
    exact hk.out _ (Below.refl _ _)
  · refine fstep_val rfl rfl (calm_step rfl fun aa ω κ hb hu hc hK => ?_)
    have h7 : aa.tmps[7]?.getD undef = .pointer (some ⟨w.heap.size, 0, none⟩) := hc 0 7 rfl rfl
    have hk := Lib.hid (fun w1 (h : Below ω.heap.size ω w1) => hK (.agg (arrK .u64 4 (wd x))) w1 rfl h)
    clear hK hu hc
    have hl := pt_0 (hA.out.step hb)
    have hl1 := hl.1
    have hl2 := hl.2
    go_simp
    exact hk.out _ (Below.refl _ _)
  · refine fstep_val rfl rfl (calm_step rfl fun aa ω κ hb hu hc hK => ?_)
    have h8 : aa.tmps[8]?.getD undef = .agg (arrK .u64 4 (wd x)) := hc 1 8 rfl rfl
    have hk := Lib.hid (fun w1 (h : Below ω.heap.size ω w1) => hK (.agg (arrK .i64 16 (dgt px))) w1 rfl h)
    clear hK hu hc
    go_simp
    go_at_call 12
    refine (kFx.out _).mono ?_
    rintro e w1 ⟨rfl, hb1⟩
    exact hk.out _ hb1
  · refine fstep_val rfl rfl (calm_step rfl fun aa ω κ hb hu hc hK => ?_)
    have h1 : aa.tmps[1]?.getD undef = .pointer (some ⟨w.heap.size, 0, none⟩) := (hu 1 rfl).trans e1
    have hk := Lib.hid (fun w1 (h : Below ω.heap.size ω w1) => hK (.pointer (some ⟨w.heap.size, 4, none⟩)) w1 rfl h)
    clear hK hu hc
    go_simp
    exact hk.out _ (Below.refl _ _)
  · refine fstep_val rfl rfl (calm_step rfl fun aa ω κ hb hu hc hK => ?_)
    have h10 : aa.tmps[10]?.getD undef = .pointer (some ⟨w.heap.size, 4, none⟩) := hc 3 10 rfl rfl
    have hk := Lib.hid (fun w1 (h : Below ω.heap.size ω w1) => hK (.agg (arrK .u64 4 (wd y))) w1 rfl h)
    clear hK hu hc
    have hl := pt_1 (hA.out.step hb)
    have hl1 := hl.1
    have hl2 := hl.2
    go_simp
    exact hk.out _ (Below.refl _ _)
  · refine fstep_val rfl rfl (calm_step rfl fun aa ω κ hb hu hc hK => ?_)
    have h11 : aa.tmps[11]?.getD undef = .agg (arrK .u64 4 (wd y)) := hc 4 11 rfl rfl
    have hk := Lib.hid (fun w1 (h : Below ω.heap.size ω w1) => hK (.agg (arrK .i64 16 (dgt py))) w1 rfl h)
    clear hK hu hc
    go_simp
    go_at_call 12
    refine (kFy.out _).mono ?_
    rintro e w1 ⟨rfl, hb1⟩
    exact hk.out _ hb1
  · refine fstep_al (n := 16) rfl rfl fun aa ω κ hK => ?_
    have hk := Lib.hid hK
    clear hK
    go_simp
    exact hk.out _ _ hc0
  · refine fstep_al (n := 16) rfl rfl fun aa ω κ hK => ?_
    have hk := Lib.hid hK
    clear hK
    go_simp
    exact hk.out _ _ hc0
  · refine fstep_st (j := 6) (n := 16) (d := 3) rfl rfl rfl rfl rfl hcpx.1 rfl rfl fun aa ω κ g hb hu hc hp hr hK => ?_
    have h9 : aa.tmps[9]?.getD undef = .agg (arrK .i64 16 (dgt px)) := hc 2 9 rfl rfl
    have hk := Lib.hid hK
    clear hK hu hc
    have hcc := hcpx
    go_simp
    exact hk.out undef
  · refine fstep_st (j := 7) (n := 16) (d := 4) rfl rfl rfl rfl rfl hcpy.1 rfl rfl fun aa ω κ g hb hu hc hp hr hK => ?_
    have h12 : aa.tmps[12]?.getD undef = .agg (arrK .i64 16 (dgt py)) := hc 5 12 rfl rfl
    have hk := Lib.hid hK
    clear hK hu hc
    have hcc := hcpy
    go_simp
    exact hk.out undef
  · intro a1 w1 G I
    have ha0 := hha0.out
    subst ha0
    have he := act_patch (n := 42) [false, false, false, true, true, false, false, true, true, true, true, true, true, false, false, false, false, false, false, false, false, false, false, false, false, false, false, false, false, false, false, false, false, false, false, false, false, false, false, false, false, false] rfl (by kernel_rfl) I.un I.sz I.df
    simp only [patch, cond_true, cond_false, Nat.reduceAdd] at he
    have hal3 := I.al 6 3 16 rfl rfl rfl
    have hal4 := I.al 7 4 16 rfl rfl rfl
    replace hA := Lib.hid (hA.out.step I.bel)
    replace hL := Lib.hid (below_step I.bel hL.out (Nat.le_refl _))
    have hX3 := Lib.hid (show At w1 (G 6) .i64 16 (dgt px) from ⟨(I.blk 6 16 rfl rfl).2, (I.row 8 6 rfl rfl).2.2⟩)
    have hX4 := Lib.hid (show At w1 (G 7) .i64 16 (dgt py) from ⟨(I.blk 7 16 rfl rfl).2, (I.row 9 7 rfl rfl).2.2⟩)
    clear kFx kFy
    clear I hz0 hha0 e1
    rw [he]
    clear he
    rw [hal3]
    rw [hal4]
    clear hal3 hal4
    generalize a1.tmps[7]?.getD undef = x7 at *
    generalize a1.tmps[8]?.getD undef = x8 at *
    generalize a1.tmps[9]?.getD undef = x9 at *
    generalize a1.tmps[10]?.getD undef = x10 at *
    generalize a1.tmps[11]?.getD undef = x11 at *
    generalize a1.tmps[12]?.getD undef = x12 at *
    obtain ⟨g3, hgz⟩ : ∃ g, G 6 = g := ⟨_, rfl⟩
    rw [hgz] at hX3 ⊢
    clear hgz
    obtain ⟨g4, hgz⟩ : ∃ g, G 7 = g := ⟨_, rfl⟩
    rw [hgz] at hX4 ⊢
    clear hgz
    generalize w1 = W1 at *
    go_upto_region 2 with (fail)
    by_cases hex : px = x
    · have hdx : decide (px = x) = true := decide_eq_true hex
      replace hqx := Lib.hid (hqx.out false hdx)
      replace hdx := Lib.hid hdx
      clear hex
      by_cases hey : py = y
      · have hdy : decide (py = y) = true := decide_eq_true hey
        replace hqy := Lib.hid (hqy.out false hdy)
        replace hdy := Lib.hid hdy
        clear hey
        generalize ha0 : Act.mk _ _ = a0
        have e1 : a0.tmps[1]?.getD undef = .pointer (some ⟨w.heap.size, 0, none⟩) := by rw [← ha0]; rfl
        have e3 : a0.tmps[3]?.getD undef = .pointer (some ⟨g3, 0, none⟩) := by rw [← ha0]; rfl
        have e4 : a0.tmps[4]?.getD undef = .pointer (some ⟨g4, 0, none⟩) := by rw [← ha0]; rfl
        have hz0 : a0.tmps.size = 42 := by rw [← ha0]; rfl
        have hha0 := Lib.hid ha0
        clear ha0
        refine wp_region_calm (fun jx_ => match jx_ with | 0 => SRel.is (.agg (arrK .i64 16 (dgt px))) | 1 => SRel.is (.agg (arrK .u64 4 (wd px))) | 2 => SRel.is (.pointer (some ⟨w.heap.size, 0, none⟩)) | 3 => SRel.is (.agg (arrK .u64 4 (wd x))) | 4 => SRel.is (.bool false) | 5 => SRel.is (.bool false) | 6 => SRel.is (.agg (arrK .i64 16 (dgt py))) | 7 => SRel.is (.agg (arrK .u64 4 (wd py))) | 8 => SRel.is (.pointer (some ⟨w.heap.size, 4, none⟩)) | 9 => SRel.is (.agg (arrK .u64 4 (wd y))) | 10 => SRel.is (.bool false) | 11 => SRel.is (.bool false) | _ => SRel.any) (by kernel_rfl) (by kernel_rfl) (by kernel_rfl) (slotsOk_of hz0 (by kernel_rfl)) ⟨?_, ?_, ?_, ?_, ?_, ?_, ?_, ?_, ?_, ?_, ?_, ?_, trivial⟩ ?_
        · refine calm_step rfl fun a ω κ hb hu hc hK => ?_
          have h3 : a.tmps[3]?.getD undef = .pointer (some ⟨g3, 0, none⟩) := (hu 3 rfl).trans e3
          have hk := Lib.hid (fun w1 (h : Below ω.heap.size ω w1) => hK (.agg (arrK .i64 16 (dgt px))) w1 rfl h)
          clear hK hu hc
          have hr1 := (hX3.out.step hb).row
          have hr2 := (hX3.out.step hb).eq
          go_simp
          exact hk.out _ (Below.refl _ _)
        · refine calm_step rfl fun a ω κ hb hu hc hK => ?_
          have h13 : a.tmps[13]?.getD undef = .agg (arrK .i64 16 (dgt px)) := hc 0 13 rfl rfl
          have hk := Lib.hid (fun w1 (h : Below ω.heap.size ω w1) => hK (.agg (arrK .u64 4 (wd px))) w1 rfl h)
          clear hK hu hc
          go_simp
          go_at_call 19
          refine (kNx.out _).mono ?_
          rintro e w1 ⟨rfl, hb1⟩
          exact hk.out _ hb1
        · refine calm_step rfl fun a ω κ hb hu hc hK => ?_
          have h1 : a.tmps[1]?.getD undef = .pointer (some ⟨w.heap.size, 0, none⟩) := (hu 1 rfl).trans e1
          have hk := Lib.hid (fun w1 (h : Below ω.heap.size ω w1) => hK (.pointer (some ⟨w.heap.size, 0, none⟩)) w1 rfl h)
          clear hK hu hc
          go_simp
          exact hk.out _ (Below.refl _ _)
        · refine calm_step rfl fun a ω κ hb hu hc hK => ?_
          have h15 : a.tmps[15]?.getD undef = .pointer (some ⟨w.heap.size, 0, none⟩) := hc 2 15 rfl rfl
          have hk := Lib.hid (fun w1 (h : Below ω.heap.size ω w1) => hK (.agg (arrK .u64 4 (wd x))) w1 rfl h)
          clear hK hu hc
          have hl := pt_0 (hA.out.step hb)
          have hl1 := hl.1
          have hl2 := hl.2
          go_simp
          exact hk.out _ (Below.refl _ _)
        · refine calm_step rfl fun a ω κ hb hu hc hK => ?_
          have h14 : a.tmps[14]?.getD undef = .agg (arrK .u64 4 (wd px)) := hc 1 14 rfl rfl
          have h16 : a.tmps[16]?.getD undef = .agg (arrK .u64 4 (wd x)) := hc 3 16 rfl rfl
          have hk := Lib.hid (fun w1 (h : Below ω.heap.size ω w1) => hK (.bool false) w1 rfl h)
          clear hK hu hc
          exact wp_eqlA (v := arrK .u64 4 (wd px)) (u := arrK .u64 4 (wd x)) (.inl rfl) (by kernel_rfl) (by go_simp) (by go_simp) (hqx.out _) (hk.out _ (Below.refl _ _))
        · refine calm_step rfl fun a ω κ hb hu hc hK => ?_
          have h17 : a.tmps[17]?.getD undef = .bool false := hc 4 17 rfl rfl
          have hk := Lib.hid (fun w1 (h : Below ω.heap.size ω w1) => hK (.bool false) w1 rfl h)
          clear hK hu hc
          go_simp
          exact hk.out _ (Below.refl _ _)
        · refine calm_step_guard (g := 5) (b := false) (d := 18) rfl rfl (fun a w hc => hc 5 18 rfl rfl) fun a ω κ hb hu hc hK => ?_
          have h4 : a.tmps[4]?.getD undef = .pointer (some ⟨g4, 0, none⟩) := (hu 4 rfl).trans e4
          have hk := Lib.hid (fun w1 (h : Below ω.heap.size ω w1) => hK (.agg (arrK .i64 16 (dgt py))) w1 rfl h)
          clear hK hu hc
          have hr1 := (hX4.out.step hb).row
          have hr2 := (hX4.out.step hb).eq
          go_simp
          exact hk.out _ (Below.refl _ _)
        · refine calm_step_guard (g := 5) (b := false) (d := 18) rfl rfl (fun a w hc => hc 5 18 rfl rfl) fun a ω κ hb hu hc hK => ?_
          have h19 : a.tmps[19]?.getD undef = .agg (arrK .i64 16 (dgt py)) := hc 6 19 rfl rfl
          have hk := Lib.hid (fun w1 (h : Below ω.heap.size ω w1) => hK (.agg (arrK .u64 4 (wd py))) w1 rfl h)
          clear hK hu hc
          go_simp
          go_at_call 19
          refine (kNy.out _).mono ?_
          rintro e w1 ⟨rfl, hb1⟩
          exact hk.out _ hb1
        · refine calm_step_guard (g := 5) (b := false) (d := 18) rfl rfl (fun a w hc => hc 5 18 rfl rfl) fun a ω κ hb hu hc hK => ?_
          have h1 : a.tmps[1]?.getD undef = .pointer (some ⟨w.heap.size, 0, none⟩) := (hu 1 rfl).trans e1
          have hk := Lib.hid (fun w1 (h : Below ω.heap.size ω w1) => hK (.pointer (some ⟨w.heap.size, 4, none⟩)) w1 rfl h)
          clear hK hu hc
          go_simp
          exact hk.out _ (Below.refl _ _)
        · refine calm_step_guard (g := 5) (b := false) (d := 18) rfl rfl (fun a w hc => hc 5 18 rfl rfl) fun a ω κ hb hu hc hK => ?_
          have h21 : a.tmps[21]?.getD undef = .pointer (some ⟨w.heap.size, 4, none⟩) := hc 8 21 rfl rfl
          have hk := Lib.hid (fun w1 (h : Below ω.heap.size ω w1) => hK (.agg (arrK .u64 4 (wd y))) w1 rfl h)
          clear hK hu hc
          have hl := pt_1 (hA.out.step hb)
          have hl1 := hl.1
          have hl2 := hl.2
          go_simp
          exact hk.out _ (Below.refl _ _)
        · refine calm_step_guard (g := 5) (b := false) (d := 18) rfl rfl (fun a w hc => hc 5 18 rfl rfl) fun a ω κ hb hu hc hK => ?_
          have h20 : a.tmps[20]?.getD undef = .agg (arrK .u64 4 (wd py)) := hc 7 20 rfl rfl
          have h22 : a.tmps[22]?.getD undef = .agg (arrK .u64 4 (wd y)) := hc 9 22 rfl rfl
          have hk := Lib.hid (fun w1 (h : Below ω.heap.size ω w1) => hK (.bool false) w1 rfl h)
          clear hK hu hc
          exact wp_eqlA (v := arrK .u64 4 (wd py)) (u := arrK .u64 4 (wd y)) (.inl rfl) (by kernel_rfl) (by go_simp) (by go_simp) (hqy.out _) (hk.out _ (Below.refl _ _))
        · refine calm_step rfl fun a ω κ hb hu hc hK => ?_
          have h18 : a.tmps[18]?.getD undef = .bool false := hc 5 18 rfl rfl
          have h23 : a.tmps[23]?.getD undef = .bool false := hc 10 23 rfl rfl
          have hk := Lib.hid (fun w1 (h : Below ω.heap.size ω w1) => hK (.bool false) w1 rfl h)
          clear hK hu hc
          go_simp
          exact hk.out _ (Below.refl _ _)
        · intro a1 w1 hb1 hu1 hsz1 hdf1 hc1
          have ha0 := hha0.out
          subst ha0
          have he := act_patch (n := 42) [false, false, false, false, false, false, false, false, false, false, false, false, false, true, true, true, true, true, true, true, true, true, true, true, true, false, false, false, false, false, false, false, false, false, false, false, false, false, false, false, false, false] rfl (by kernel_rfl) hu1 hsz1 hdf1
          simp only [patch, cond_true, cond_false, Nat.reduceAdd] at he
          have hkn24 : a1.tmps[24]?.getD undef = .bool false := hc1 11 24 rfl
          replace hA := Lib.hid (hA.out.step hb1)
          replace hL := Lib.hid (below_step hb1 hL.out (Nat.le_refl _))
          replace hX3 := Lib.hid (hX3.out.step hb1)
          replace hX4 := Lib.hid (hX4.out.step hb1)
          clear kNx kNy hqx hqy
          clear hb1 hu1 hsz1 hdf1 hc1 hz0 hha0 e1 e3 e4
          rw [he]
          clear he
          rw [hkn24]
          clear hkn24
          generalize a1.tmps[13]?.getD undef = x13 at *
          generalize a1.tmps[14]?.getD undef = x14 at *
          generalize a1.tmps[15]?.getD undef = x15 at *
          generalize a1.tmps[16]?.getD undef = x16 at *
          generalize a1.tmps[17]?.getD undef = x17 at *
          generalize a1.tmps[18]?.getD undef = x18 at *
          generalize a1.tmps[19]?.getD undef = x19 at *
          generalize a1.tmps[20]?.getD undef = x20 at *
          generalize a1.tmps[21]?.getD undef = x21 at *
          generalize a1.tmps[22]?.getD undef = x22 at *
          generalize a1.tmps[23]?.getD undef = x23 at *
          go_upto_region 4 with (fail)
          generalize ha0 : Act.mk _ _ = a0
          have e3 : a0.tmps[3]?.getD undef = .pointer (some ⟨g3, 0, none⟩) := by rw [← ha0]; rfl
          have e4 : a0.tmps[4]?.getD undef = .pointer (some ⟨g4, 0, none⟩) := by rw [← ha0]; rfl
          have hz0 : a0.tmps.size = 42 := by rw [← ha0]; rfl
          have hha0 := Lib.hid ha0
          clear ha0
          refine wp_region_fresh ⟨fun jx_ => match jx_ with | 0 => some (.agg (arrK .i64 16 (dgt px))) | 1 => some (.agg (arrK .i64 16 (dgt px))) | 2 => some (.agg (arrK .i64 16 (dgt xx))) | 3 => some (.agg (arrK .i64 16 (dgt py))) | 4 => some (.agg (arrK .i64 16 (dgt py))) | 5 => some (.agg (arrK .i64 16 (dgt yy))) | _ => none, fun jx_ => match jx_ with | 6 => some 16 | 7 => some 16 | _ => none, fun jx_ => match jx_ with | 8 => some 6 | 9 => some 7 | _ => none, fun jx_ => match jx_ with | 8 => arrK .i64 16 (dgt xx) | 9 => arrK .i64 16 (dgt yy) | _ => #[]⟩ (by kernel_rfl) (by kernel_rfl) (by kernel_rfl) (slotsOk_of hz0 (by kernel_rfl)) rfl ⟨?_, ?_, ?_, ?_, ?_, ?_, ?_, ?_, ?_, ?_, trivial⟩ ?_
          · refine fstep_val rfl rfl (calm_step rfl fun aa ω κ hb hu hc hK => ?_)
            have h3 : aa.tmps[3]?.getD undef = .pointer (some ⟨g3, 0, none⟩) := (hu 3 rfl).trans e3
            have hk := Lib.hid (fun w1 (h : Below ω.heap.size ω w1) => hK (.agg (arrK .i64 16 (dgt px))) w1 rfl h)
            clear hK hu hc
            have hr1 := (hX3.out.step hb).row
            have hr2 := (hX3.out.step hb).eq
            go_simp
            exact hk.out _ (Below.refl _ _)
          · refine fstep_val rfl rfl (calm_step rfl fun aa ω κ hb hu hc hK => ?_)
            have h3 : aa.tmps[3]?.getD undef = .pointer (some ⟨g3, 0, none⟩) := (hu 3 rfl).trans e3
            have hk := Lib.hid (fun w1 (h : Below ω.heap.size ω w1) => hK (.agg (arrK .i64 16 (dgt px))) w1 rfl h)
            clear hK hu hc
            have hr1 := (hX3.out.step hb).row
            have hr2 := (hX3.out.step hb).eq
            go_simp
            exact hk.out _ (Below.refl _ _)
          · refine fstep_val rfl rfl (calm_step rfl fun aa ω κ hb hu hc hK => ?_)
            have h25 : aa.tmps[25]?.getD undef = .agg (arrK .i64 16 (dgt px)) := hc 0 25 rfl rfl
            have h26 : aa.tmps[26]?.getD undef = .agg (arrK .i64 16 (dgt px)) := hc 1 26 rfl rfl
            have hk := Lib.hid (fun w1 (h : Below ω.heap.size ω w1) => hK (.agg (arrK .i64 16 (dgt xx))) w1 rfl h)
            clear hK hu hc
            go_simp
            go_at_call 25
            refine (kxx.out _).mono ?_
            rintro e w1 ⟨rfl, hb1⟩
            exact hk.out _ hb1
          · refine fstep_val rfl rfl (calm_step rfl fun aa ω κ hb hu hc hK => ?_)
            have h4 : aa.tmps[4]?.getD undef = .pointer (some ⟨g4, 0, none⟩) := (hu 4 rfl).trans e4
            have hk := Lib.hid (fun w1 (h : Below ω.heap.size ω w1) => hK (.agg (arrK .i64 16 (dgt py))) w1 rfl h)
            clear hK hu hc
            have hr1 := (hX4.out.step hb).row
            have hr2 := (hX4.out.step hb).eq
            go_simp
            exact hk.out _ (Below.refl _ _)
          · refine fstep_val rfl rfl (calm_step rfl fun aa ω κ hb hu hc hK => ?_)
            have h4 : aa.tmps[4]?.getD undef = .pointer (some ⟨g4, 0, none⟩) := (hu 4 rfl).trans e4
            have hk := Lib.hid (fun w1 (h : Below ω.heap.size ω w1) => hK (.agg (arrK .i64 16 (dgt py))) w1 rfl h)
            clear hK hu hc
            have hr1 := (hX4.out.step hb).row
            have hr2 := (hX4.out.step hb).eq
            go_simp
            exact hk.out _ (Below.refl _ _)
          · refine fstep_val rfl rfl (calm_step rfl fun aa ω κ hb hu hc hK => ?_)
            have h28 : aa.tmps[28]?.getD undef = .agg (arrK .i64 16 (dgt py)) := hc 3 28 rfl rfl
            have h29 : aa.tmps[29]?.getD undef = .agg (arrK .i64 16 (dgt py)) := hc 4 29 rfl rfl
            have hk := Lib.hid (fun w1 (h : Below ω.heap.size ω w1) => hK (.agg (arrK .i64 16 (dgt yy))) w1 rfl h)
            clear hK hu hc
            go_simp
            go_at_call 25
            refine (kyy.out _).mono ?_
            rintro e w1 ⟨rfl, hb1⟩
            exact hk.out _ hb1
          · refine fstep_al (n := 16) rfl rfl fun aa ω κ hK => ?_
            have hk := Lib.hid hK
            clear hK
            go_simp
            exact hk.out _ _ hc0
          · refine fstep_al (n := 16) rfl rfl fun aa ω κ hK => ?_
            have hk := Lib.hid hK
            clear hK
            go_simp
            exact hk.out _ _ hc0
          · refine fstep_st (j := 6) (n := 16) (d := 5) rfl rfl rfl rfl rfl hcxx.1 rfl rfl fun aa ω κ g hb hu hc hp hr hK => ?_
            have h27 : aa.tmps[27]?.getD undef = .agg (arrK .i64 16 (dgt xx)) := hc 2 27 rfl rfl
            have hk := Lib.hid hK
            clear hK hu hc
            have hcc := hcxx
            go_simp
            exact hk.out undef
          · refine fstep_st (j := 7) (n := 16) (d := 6) rfl rfl rfl rfl rfl hcyy.1 rfl rfl fun aa ω κ g hb hu hc hp hr hK => ?_
            have h30 : aa.tmps[30]?.getD undef = .agg (arrK .i64 16 (dgt yy)) := hc 5 30 rfl rfl
            have hk := Lib.hid hK
            clear hK hu hc
            have hcc := hcyy
            go_simp
            exact hk.out undef
          · intro a1 w1 G I
            have ha0 := hha0.out
            subst ha0
            have he := act_patch (n := 42) [false, false, false, false, false, true, true, false, false, false, false, false, false, false, false, false, false, false, false, false, false, false, false, false, false, true, true, true, true, true, true, false, false, false, false, false, false, false, false, false, false, false] rfl (by kernel_rfl) I.un I.sz I.df
            simp only [patch, cond_true, cond_false, Nat.reduceAdd] at he
            have hal5 := I.al 6 5 16 rfl rfl rfl
            have hal6 := I.al 7 6 16 rfl rfl rfl
            replace hA := Lib.hid (hA.out.step I.bel)
            replace hL := Lib.hid (below_step I.bel hL.out (Nat.le_refl _))
            replace hX3 := Lib.hid (hX3.out.step I.bel)
            replace hX4 := Lib.hid (hX4.out.step I.bel)
            have hX5 := Lib.hid (show At w1 (G 6) .i64 16 (dgt xx) from ⟨(I.blk 6 16 rfl rfl).2, (I.row 8 6 rfl rfl).2.2⟩)
            have hX6 := Lib.hid (show At w1 (G 7) .i64 16 (dgt yy) from ⟨(I.blk 7 16 rfl rfl).2, (I.row 9 7 rfl rfl).2.2⟩)
            clear kxx kyy
            clear I hz0 hha0 e3 e4
            rw [he]
            clear he
            rw [hal5]
            rw [hal6]
            clear hal5 hal6
            generalize a1.tmps[25]?.getD undef = x25 at *
            generalize a1.tmps[26]?.getD undef = x26 at *
            generalize a1.tmps[27]?.getD undef = x27 at *
            generalize a1.tmps[28]?.getD undef = x28 at *
            generalize a1.tmps[29]?.getD undef = x29 at *
            generalize a1.tmps[30]?.getD undef = x30 at *
            obtain ⟨g5, hgz⟩ : ∃ g, G 6 = g := ⟨_, rfl⟩
            rw [hgz] at hX5 ⊢
            clear hgz
            obtain ⟨g6, hgz⟩ : ∃ g, G 7 = g := ⟨_, rfl⟩
            rw [hgz] at hX6 ⊢
            clear hgz
            generalize w1 = W4 at *
            go_upto_region 5 with (fail)
            obtain ⟨r, hr⟩ : ∃ r, decide (yy = sm) = r := ⟨_, rfl⟩
            replace hqe := Lib.hid (hqe.out r hr)
            have hfin := Lib.hid (show R = r by rw [← hRR.out, hdx.out, hdy.out, hr]; rfl)
            clear hr
            generalize ha0 : Act.mk _ _ = a0
            have e5 : a0.tmps[5]?.getD undef = .pointer (some ⟨g5, 0, none⟩) := by rw [← ha0]; rfl
            have e6 : a0.tmps[6]?.getD undef = .pointer (some ⟨g6, 0, none⟩) := by rw [← ha0]; rfl
            have hz0 : a0.tmps.size = 42 := by rw [← ha0]; rfl
            have hha0 := Lib.hid ha0
            clear ha0
            refine wp_region_calm (fun jx_ => match jx_ with | 0 => SRel.is (.agg (arrK .i64 16 (dgt yy))) | 1 => SRel.is (.agg (arrK .i64 16 (dgt 1))) | 2 => SRel.is (.agg (arrK .i64 16 (dgt xx))) | 3 => SRel.is (.agg (arrK .i64 16 (dgt p1))) | 4 => SRel.is (.agg (arrK .i64 16 (dgt dn))) | 5 => SRel.is (.agg (arrK .i64 16 (dgt xx))) | 6 => SRel.is (.agg (arrK .i64 16 (dgt q1))) | 7 => SRel.is (.agg (arrK .i64 16 (dgt yy))) | 8 => SRel.is (.agg (arrK .i64 16 (dgt q2))) | 9 => SRel.is (.agg (arrK .i64 16 (dgt sm))) | 10 => SRel.is (.bool r) | 11 => SRel.is (.bool r) | _ => SRel.any) (by kernel_rfl) (by kernel_rfl) (by kernel_rfl) (slotsOk_of hz0 (by kernel_rfl)) ⟨?_, ?_, ?_, ?_, ?_, ?_, ?_, ?_, ?_, ?_, ?_, ?_, trivial⟩ ?_
            · refine calm_step rfl fun a ω κ hb hu hc hK => ?_
              have h6 : a.tmps[6]?.getD undef = .pointer (some ⟨g6, 0, none⟩) := (hu 6 rfl).trans e6
              have hk := Lib.hid (fun w1 (h : Below ω.heap.size ω w1) => hK (.agg (arrK .i64 16 (dgt yy))) w1 rfl h)
              clear hK hu hc
              have hr1 := (hX6.out.step hb).row
              have hr2 := (hX6.out.step hb).eq
              go_simp
              exact hk.out _ (Below.refl _ _)
            · refine calm_step rfl fun a ω κ hb hu hc hK => ?_
              have hk := Lib.hid (fun w1 (h : Below ω.heap.size ω w1) => hK (.agg (arrK .i64 16 (dgt 1))) w1 rfl h)
              clear hK hu hc
              go_simp
              go_at_call 89
              refine (h1.out _).mono ?_
              rintro e w1 ⟨rfl, hb1⟩
              exact hk.out _ hb1
            · refine calm_step rfl fun a ω κ hb hu hc hK => ?_
              have h5 : a.tmps[5]?.getD undef = .pointer (some ⟨g5, 0, none⟩) := (hu 5 rfl).trans e5
              have hk := Lib.hid (fun w1 (h : Below ω.heap.size ω w1) => hK (.agg (arrK .i64 16 (dgt xx))) w1 rfl h)
              clear hK hu hc
              have hr1 := (hX5.out.step hb).row
              have hr2 := (hX5.out.step hb).eq
              go_simp
              exact hk.out _ (Below.refl _ _)
            · refine calm_step rfl fun a ω κ hb hu hc hK => ?_
              have h32 : a.tmps[32]?.getD undef = .agg (arrK .i64 16 (dgt 1)) := hc 1 32 rfl rfl
              have h33 : a.tmps[33]?.getD undef = .agg (arrK .i64 16 (dgt xx)) := hc 2 33 rfl rfl
              have hk := Lib.hid (fun w1 (h : Below ω.heap.size ω w1) => hK (.agg (arrK .i64 16 (dgt p1))) w1 rfl h)
              clear hK hu hc
              go_simp
              go_at_call 21
              refine (kp1.out _).mono ?_
              rintro e w1 ⟨rfl, hb1⟩
              exact hk.out _ hb1
            · refine calm_step rfl fun a ω κ hb hu hc hK => ?_
              have hk := Lib.hid (fun w1 (h : Below ω.heap.size ω w1) => hK (.agg (arrK .i64 16 (dgt dn))) w1 rfl h)
              clear hK hu hc
              go_simp
              go_at_call 105
              refine (kd.out _).mono ?_
              rintro e w1 ⟨rfl, hb1⟩
              exact hk.out _ hb1
            · refine calm_step rfl fun a ω κ hb hu hc hK => ?_
              have h5 : a.tmps[5]?.getD undef = .pointer (some ⟨g5, 0, none⟩) := (hu 5 rfl).trans e5
              have hk := Lib.hid (fun w1 (h : Below ω.heap.size ω w1) => hK (.agg (arrK .i64 16 (dgt xx))) w1 rfl h)
              clear hK hu hc
              have hr1 := (hX5.out.step hb).row
              have hr2 := (hX5.out.step hb).eq
              go_simp
              exact hk.out _ (Below.refl _ _)
            · refine calm_step rfl fun a ω κ hb hu hc hK => ?_
              have h35 : a.tmps[35]?.getD undef = .agg (arrK .i64 16 (dgt dn)) := hc 4 35 rfl rfl
              have h36 : a.tmps[36]?.getD undef = .agg (arrK .i64 16 (dgt xx)) := hc 5 36 rfl rfl
              have hk := Lib.hid (fun w1 (h : Below ω.heap.size ω w1) => hK (.agg (arrK .i64 16 (dgt q1))) w1 rfl h)
              clear hK hu hc
              go_simp
              go_at_call 25
              refine (kq1.out _).mono ?_
              rintro e w1 ⟨rfl, hb1⟩
              exact hk.out _ hb1
            · refine calm_step rfl fun a ω κ hb hu hc hK => ?_
              have h6 : a.tmps[6]?.getD undef = .pointer (some ⟨g6, 0, none⟩) := (hu 6 rfl).trans e6
              have hk := Lib.hid (fun w1 (h : Below ω.heap.size ω w1) => hK (.agg (arrK .i64 16 (dgt yy))) w1 rfl h)
              clear hK hu hc
              have hr1 := (hX6.out.step hb).row
              have hr2 := (hX6.out.step hb).eq
              go_simp
              exact hk.out _ (Below.refl _ _)
            · refine calm_step rfl fun a ω κ hb hu hc hK => ?_
              have h37 : a.tmps[37]?.getD undef = .agg (arrK .i64 16 (dgt q1)) := hc 6 37 rfl rfl
              have h38 : a.tmps[38]?.getD undef = .agg (arrK .i64 16 (dgt yy)) := hc 7 38 rfl rfl
              have hk := Lib.hid (fun w1 (h : Below ω.heap.size ω w1) => hK (.agg (arrK .i64 16 (dgt q2))) w1 rfl h)
              clear hK hu hc
              go_simp
              go_at_call 25
              refine (kq2.out _).mono ?_
              rintro e w1 ⟨rfl, hb1⟩
              exact hk.out _ hb1
            · refine calm_step rfl fun a ω κ hb hu hc hK => ?_
              have h34 : a.tmps[34]?.getD undef = .agg (arrK .i64 16 (dgt p1)) := hc 3 34 rfl rfl
              have h39 : a.tmps[39]?.getD undef = .agg (arrK .i64 16 (dgt q2)) := hc 8 39 rfl rfl
              have hk := Lib.hid (fun w1 (h : Below ω.heap.size ω w1) => hK (.agg (arrK .i64 16 (dgt sm))) w1 rfl h)
              clear hK hu hc
              go_simp
              go_at_call 21
              refine (ksm.out _).mono ?_
              rintro e w1 ⟨rfl, hb1⟩
              exact hk.out _ hb1
            · refine calm_step rfl fun a ω κ hb hu hc hK => ?_
              have h31 : a.tmps[31]?.getD undef = .agg (arrK .i64 16 (dgt yy)) := hc 0 31 rfl rfl
              have h40 : a.tmps[40]?.getD undef = .agg (arrK .i64 16 (dgt sm)) := hc 9 40 rfl rfl
              have hk := Lib.hid (fun w1 (h : Below ω.heap.size ω w1) => hK (.bool r) w1 rfl h)
              clear hK hu hc
              exact wp_eqlA (v := arrK .i64 16 (dgt yy)) (u := arrK .i64 16 (dgt sm)) (.inr rfl) (by kernel_rfl) (by go_simp) (by go_simp) (hqe.out _) (hk.out _ (Below.refl _ _))
            · refine calm_step rfl fun a ω κ hb hu hc hK => ?_
              have h41 : a.tmps[41]?.getD undef = .bool r := hc 10 41 rfl rfl
              have hk := Lib.hid (fun w1 (h : Below ω.heap.size ω w1) => hK (.bool r) w1 rfl h)
              clear hK hu hc
              go_simp
              exact hk.out _ (Below.refl _ _)
            · intro a1 w1 hb1 hu1 hsz1 hdf1 hc1
              have ha0 := hha0.out
              subst ha0
              have he := act_patch (n := 42) [false, false, true, false, false, false, false, false, false, false, false, false, false, false, false, false, false, false, false, false, false, false, false, false, false, false, false, false, false, false, false, true, true, true, true, true, true, true, true, true, true, true] rfl (by kernel_rfl) hu1 hsz1 hdf1
              simp only [patch, cond_true, cond_false, Nat.reduceAdd] at he
              have hkn2 : a1.tmps[2]?.getD undef = .bool r := hc1 11 2 rfl
              replace hL := Lib.hid (below_step hb1 hL.out (Nat.le_refl _))
              clear hb1 hu1 hsz1 hdf1 hc1 hz0 hha0 e5 e6
              rw [he]
              clear he
              rw [hkn2]
              clear hkn2
              generalize a1.tmps[31]?.getD undef = x31 at *
              generalize a1.tmps[32]?.getD undef = x32 at *
              generalize a1.tmps[33]?.getD undef = x33 at *
              generalize a1.tmps[34]?.getD undef = x34 at *
              generalize a1.tmps[35]?.getD undef = x35 at *
              generalize a1.tmps[36]?.getD undef = x36 at *
              generalize a1.tmps[37]?.getD undef = x37 at *
              generalize a1.tmps[38]?.getD undef = x38 at *
              generalize a1.tmps[39]?.getD undef = x39 at *
              generalize a1.tmps[40]?.getD undef = x40 at *
              generalize a1.tmps[41]?.getD undef = x41 at *
              go_wp2_with fail
              exact ret_tmp (p := 2) (v := .bool r) rfl (by simp) rfl ⟨by rw [hfin.out], hL.out⟩

      · have hdy : decide (py = y) = false := decide_eq_false hey
        replace hqy := Lib.hid (hqy.out true hdy)
        replace hdy := Lib.hid hdy
        clear hey
        generalize ha0 : Act.mk _ _ = a0
        have e1 : a0.tmps[1]?.getD undef = .pointer (some ⟨w.heap.size, 0, none⟩) := by rw [← ha0]; rfl
        have e3 : a0.tmps[3]?.getD undef = .pointer (some ⟨g3, 0, none⟩) := by rw [← ha0]; rfl
        have e4 : a0.tmps[4]?.getD undef = .pointer (some ⟨g4, 0, none⟩) := by rw [← ha0]; rfl
        have hz0 : a0.tmps.size = 42 := by rw [← ha0]; rfl
        have hha0 := Lib.hid ha0
        clear ha0
        refine wp_region_calm (fun jx_ => match jx_ with | 0 => SRel.is (.agg (arrK .i64 16 (dgt px))) | 1 => SRel.is (.agg (arrK .u64 4 (wd px))) | 2 => SRel.is (.pointer (some ⟨w.heap.size, 0, none⟩)) | 3 => SRel.is (.agg (arrK .u64 4 (wd x))) | 4 => SRel.is (.bool false) | 5 => SRel.is (.bool false) | 6 => SRel.is (.agg (arrK .i64 16 (dgt py))) | 7 => SRel.is (.agg (arrK .u64 4 (wd py))) | 8 => SRel.is (.pointer (some ⟨w.heap.size, 4, none⟩)) | 9 => SRel.is (.agg (arrK .u64 4 (wd y))) | 10 => SRel.is (.bool true) | 11 => SRel.is (.bool true) | _ => SRel.any) (by kernel_rfl) (by kernel_rfl) (by kernel_rfl) (slotsOk_of hz0 (by kernel_rfl)) ⟨?_, ?_, ?_, ?_, ?_, ?_, ?_, ?_, ?_, ?_, ?_, ?_, trivial⟩ ?_
        · refine calm_step rfl fun a ω κ hb hu hc hK => ?_
          have h3 : a.tmps[3]?.getD undef = .pointer (some ⟨g3, 0, none⟩) := (hu 3 rfl).trans e3
          have hk := Lib.hid (fun w1 (h : Below ω.heap.size ω w1) => hK (.agg (arrK .i64 16 (dgt px))) w1 rfl h)
          clear hK hu hc
          have hr1 := (hX3.out.step hb).row
          have hr2 := (hX3.out.step hb).eq
          go_simp
          exact hk.out _ (Below.refl _ _)
        · refine calm_step rfl fun a ω κ hb hu hc hK => ?_
          have h13 : a.tmps[13]?.getD undef = .agg (arrK .i64 16 (dgt px)) := hc 0 13 rfl rfl
          have hk := Lib.hid (fun w1 (h : Below ω.heap.size ω w1) => hK (.agg (arrK .u64 4 (wd px))) w1 rfl h)
          clear hK hu hc
          go_simp
          go_at_call 19
          refine (kNx.out _).mono ?_
          rintro e w1 ⟨rfl, hb1⟩
          exact hk.out _ hb1
        · refine calm_step rfl fun a ω κ hb hu hc hK => ?_
          have h1 : a.tmps[1]?.getD undef = .pointer (some ⟨w.heap.size, 0, none⟩) := (hu 1 rfl).trans e1
          have hk := Lib.hid (fun w1 (h : Below ω.heap.size ω w1) => hK (.pointer (some ⟨w.heap.size, 0, none⟩)) w1 rfl h)
          clear hK hu hc
          go_simp
          exact hk.out _ (Below.refl _ _)
        · refine calm_step rfl fun a ω κ hb hu hc hK => ?_
          have h15 : a.tmps[15]?.getD undef = .pointer (some ⟨w.heap.size, 0, none⟩) := hc 2 15 rfl rfl
          have hk := Lib.hid (fun w1 (h : Below ω.heap.size ω w1) => hK (.agg (arrK .u64 4 (wd x))) w1 rfl h)
          clear hK hu hc
          have hl := pt_0 (hA.out.step hb)
          have hl1 := hl.1
          have hl2 := hl.2
          go_simp
          exact hk.out _ (Below.refl _ _)
        · refine calm_step rfl fun a ω κ hb hu hc hK => ?_
          have h14 : a.tmps[14]?.getD undef = .agg (arrK .u64 4 (wd px)) := hc 1 14 rfl rfl
          have h16 : a.tmps[16]?.getD undef = .agg (arrK .u64 4 (wd x)) := hc 3 16 rfl rfl
          have hk := Lib.hid (fun w1 (h : Below ω.heap.size ω w1) => hK (.bool false) w1 rfl h)
          clear hK hu hc
          exact wp_eqlA (v := arrK .u64 4 (wd px)) (u := arrK .u64 4 (wd x)) (.inl rfl) (by kernel_rfl) (by go_simp) (by go_simp) (hqx.out _) (hk.out _ (Below.refl _ _))
        · refine calm_step rfl fun a ω κ hb hu hc hK => ?_
          have h17 : a.tmps[17]?.getD undef = .bool false := hc 4 17 rfl rfl
          have hk := Lib.hid (fun w1 (h : Below ω.heap.size ω w1) => hK (.bool false) w1 rfl h)
          clear hK hu hc
          go_simp
          exact hk.out _ (Below.refl _ _)
        · refine calm_step_guard (g := 5) (b := false) (d := 18) rfl rfl (fun a w hc => hc 5 18 rfl rfl) fun a ω κ hb hu hc hK => ?_
          have h4 : a.tmps[4]?.getD undef = .pointer (some ⟨g4, 0, none⟩) := (hu 4 rfl).trans e4
          have hk := Lib.hid (fun w1 (h : Below ω.heap.size ω w1) => hK (.agg (arrK .i64 16 (dgt py))) w1 rfl h)
          clear hK hu hc
          have hr1 := (hX4.out.step hb).row
          have hr2 := (hX4.out.step hb).eq
          go_simp
          exact hk.out _ (Below.refl _ _)
        · refine calm_step_guard (g := 5) (b := false) (d := 18) rfl rfl (fun a w hc => hc 5 18 rfl rfl) fun a ω κ hb hu hc hK => ?_
          have h19 : a.tmps[19]?.getD undef = .agg (arrK .i64 16 (dgt py)) := hc 6 19 rfl rfl
          have hk := Lib.hid (fun w1 (h : Below ω.heap.size ω w1) => hK (.agg (arrK .u64 4 (wd py))) w1 rfl h)
          clear hK hu hc
          go_simp
          go_at_call 19
          refine (kNy.out _).mono ?_
          rintro e w1 ⟨rfl, hb1⟩
          exact hk.out _ hb1
        · refine calm_step_guard (g := 5) (b := false) (d := 18) rfl rfl (fun a w hc => hc 5 18 rfl rfl) fun a ω κ hb hu hc hK => ?_
          have h1 : a.tmps[1]?.getD undef = .pointer (some ⟨w.heap.size, 0, none⟩) := (hu 1 rfl).trans e1
          have hk := Lib.hid (fun w1 (h : Below ω.heap.size ω w1) => hK (.pointer (some ⟨w.heap.size, 4, none⟩)) w1 rfl h)
          clear hK hu hc
          go_simp
          exact hk.out _ (Below.refl _ _)
        · refine calm_step_guard (g := 5) (b := false) (d := 18) rfl rfl (fun a w hc => hc 5 18 rfl rfl) fun a ω κ hb hu hc hK => ?_
          have h21 : a.tmps[21]?.getD undef = .pointer (some ⟨w.heap.size, 4, none⟩) := hc 8 21 rfl rfl
          have hk := Lib.hid (fun w1 (h : Below ω.heap.size ω w1) => hK (.agg (arrK .u64 4 (wd y))) w1 rfl h)
          clear hK hu hc
          have hl := pt_1 (hA.out.step hb)
          have hl1 := hl.1
          have hl2 := hl.2
          go_simp
          exact hk.out _ (Below.refl _ _)
        · refine calm_step_guard (g := 5) (b := false) (d := 18) rfl rfl (fun a w hc => hc 5 18 rfl rfl) fun a ω κ hb hu hc hK => ?_
          have h20 : a.tmps[20]?.getD undef = .agg (arrK .u64 4 (wd py)) := hc 7 20 rfl rfl
          have h22 : a.tmps[22]?.getD undef = .agg (arrK .u64 4 (wd y)) := hc 9 22 rfl rfl
          have hk := Lib.hid (fun w1 (h : Below ω.heap.size ω w1) => hK (.bool true) w1 rfl h)
          clear hK hu hc
          exact wp_eqlA (v := arrK .u64 4 (wd py)) (u := arrK .u64 4 (wd y)) (.inl rfl) (by kernel_rfl) (by go_simp) (by go_simp) (hqy.out _) (hk.out _ (Below.refl _ _))
        · refine calm_step rfl fun a ω κ hb hu hc hK => ?_
          have h18 : a.tmps[18]?.getD undef = .bool false := hc 5 18 rfl rfl
          have h23 : a.tmps[23]?.getD undef = .bool true := hc 10 23 rfl rfl
          have hk := Lib.hid (fun w1 (h : Below ω.heap.size ω w1) => hK (.bool true) w1 rfl h)
          clear hK hu hc
          go_simp
          exact hk.out _ (Below.refl _ _)
        · intro a1 w1 hb1 hu1 hsz1 hdf1 hc1
          have ha0 := hha0.out
          subst ha0
          have he := act_patch (n := 42) [false, false, false, false, false, false, false, false, false, false, false, false, false, true, true, true, true, true, true, true, true, true, true, true, true, false, false, false, false, false, false, false, false, false, false, false, false, false, false, false, false, false] rfl (by kernel_rfl) hu1 hsz1 hdf1
          simp only [patch, cond_true, cond_false, Nat.reduceAdd] at he
          have hkn24 : a1.tmps[24]?.getD undef = .bool true := hc1 11 24 rfl
          replace hA := Lib.hid (hA.out.step hb1)
          replace hL := Lib.hid (below_step hb1 hL.out (Nat.le_refl _))
          replace hX3 := Lib.hid (hX3.out.step hb1)
          replace hX4 := Lib.hid (hX4.out.step hb1)
          clear kNx kNy hqx hqy
          clear hb1 hu1 hsz1 hdf1 hc1 hz0 hha0 e1 e3 e4
          rw [he]
          clear he
          rw [hkn24]
          clear hkn24
          generalize a1.tmps[13]?.getD undef = x13 at *
          generalize a1.tmps[14]?.getD undef = x14 at *
          generalize a1.tmps[15]?.getD undef = x15 at *
          generalize a1.tmps[16]?.getD undef = x16 at *
          generalize a1.tmps[17]?.getD undef = x17 at *
          generalize a1.tmps[18]?.getD undef = x18 at *
          generalize a1.tmps[19]?.getD undef = x19 at *
          generalize a1.tmps[20]?.getD undef = x20 at *
          generalize a1.tmps[21]?.getD undef = x21 at *
          generalize a1.tmps[22]?.getD undef = x22 at *
          generalize a1.tmps[23]?.getD undef = x23 at *
          go_wp2_with fail
          exact ret_tmp (p := 2) (v := .bool false) rfl (by simp) rfl ⟨by rw [← hRR.out, hdx.out, hdy.out]; rfl, hL.out⟩

    · have hdx : decide (px = x) = false := decide_eq_false hex
      replace hqx := Lib.hid (hqx.out true hdx)
      replace hdx := Lib.hid hdx
      clear hex
      generalize ha0 : Act.mk _ _ = a0
      have e1 : a0.tmps[1]?.getD undef = .pointer (some ⟨w.heap.size, 0, none⟩) := by rw [← ha0]; rfl
      have e3 : a0.tmps[3]?.getD undef = .pointer (some ⟨g3, 0, none⟩) := by rw [← ha0]; rfl
      have e4 : a0.tmps[4]?.getD undef = .pointer (some ⟨g4, 0, none⟩) := by rw [← ha0]; rfl
      have hz0 : a0.tmps.size = 42 := by rw [← ha0]; rfl
      have hha0 := Lib.hid ha0
      clear ha0
      refine wp_region_calm (fun jx_ => match jx_ with | 0 => SRel.is (.agg (arrK .i64 16 (dgt px))) | 1 => SRel.is (.agg (arrK .u64 4 (wd px))) | 2 => SRel.is (.pointer (some ⟨w.heap.size, 0, none⟩)) | 3 => SRel.is (.agg (arrK .u64 4 (wd x))) | 4 => SRel.is (.bool true) | 5 => SRel.is (.bool true) | 6 => SRel.any | 7 => SRel.any | 8 => SRel.any | 9 => SRel.any | 10 => SRel.any | 11 => SRel.is (.bool true) | _ => SRel.any) (by kernel_rfl) (by kernel_rfl) (by kernel_rfl) (slotsOk_of hz0 (by kernel_rfl)) ⟨?_, ?_, ?_, ?_, ?_, ?_, ?_, ?_, ?_, ?_, ?_, ?_, trivial⟩ ?_
      · refine calm_step rfl fun a ω κ hb hu hc hK => ?_
        have h3 : a.tmps[3]?.getD undef = .pointer (some ⟨g3, 0, none⟩) := (hu 3 rfl).trans e3
        have hk := Lib.hid (fun w1 (h : Below ω.heap.size ω w1) => hK (.agg (arrK .i64 16 (dgt px))) w1 rfl h)
        clear hK hu hc
        have hr1 := (hX3.out.step hb).row
        have hr2 := (hX3.out.step hb).eq
        go_simp
        exact hk.out _ (Below.refl _ _)
      · refine calm_step rfl fun a ω κ hb hu hc hK => ?_
        have h13 : a.tmps[13]?.getD undef = .agg (arrK .i64 16 (dgt px)) := hc 0 13 rfl rfl
        have hk := Lib.hid (fun w1 (h : Below ω.heap.size ω w1) => hK (.agg (arrK .u64 4 (wd px))) w1 rfl h)
        clear hK hu hc
        go_simp
        go_at_call 19
        refine (kNx.out _).mono ?_
        rintro e w1 ⟨rfl, hb1⟩
        exact hk.out _ hb1
      · refine calm_step rfl fun a ω κ hb hu hc hK => ?_
        have h1 : a.tmps[1]?.getD undef = .pointer (some ⟨w.heap.size, 0, none⟩) := (hu 1 rfl).trans e1
        have hk := Lib.hid (fun w1 (h : Below ω.heap.size ω w1) => hK (.pointer (some ⟨w.heap.size, 0, none⟩)) w1 rfl h)
        clear hK hu hc
        go_simp
        exact hk.out _ (Below.refl _ _)
      · refine calm_step rfl fun a ω κ hb hu hc hK => ?_
        have h15 : a.tmps[15]?.getD undef = .pointer (some ⟨w.heap.size, 0, none⟩) := hc 2 15 rfl rfl
        have hk := Lib.hid (fun w1 (h : Below ω.heap.size ω w1) => hK (.agg (arrK .u64 4 (wd x))) w1 rfl h)
        clear hK hu hc
        have hl := pt_0 (hA.out.step hb)
        have hl1 := hl.1
        have hl2 := hl.2
        go_simp
        exact hk.out _ (Below.refl _ _)
      · refine calm_step rfl fun a ω κ hb hu hc hK => ?_
        have h14 : a.tmps[14]?.getD undef = .agg (arrK .u64 4 (wd px)) := hc 1 14 rfl rfl
        have h16 : a.tmps[16]?.getD undef = .agg (arrK .u64 4 (wd x)) := hc 3 16 rfl rfl
        have hk := Lib.hid (fun w1 (h : Below ω.heap.size ω w1) => hK (.bool true) w1 rfl h)
        clear hK hu hc
        exact wp_eqlA (v := arrK .u64 4 (wd px)) (u := arrK .u64 4 (wd x)) (.inl rfl) (by kernel_rfl) (by go_simp) (by go_simp) (hqx.out _) (hk.out _ (Below.refl _ _))
      · refine calm_step rfl fun a ω κ hb hu hc hK => ?_
        have h17 : a.tmps[17]?.getD undef = .bool true := hc 4 17 rfl rfl
        have hk := Lib.hid (fun w1 (h : Below ω.heap.size ω w1) => hK (.bool true) w1 rfl h)
        clear hK hu hc
        go_simp
        exact hk.out _ (Below.refl _ _)
      · exact calm_step_skip (g := 5) (b := false) (d := 18) rfl rfl (fun a w hc => hc 5 18 rfl rfl) (fun _ => trivial)
      · exact calm_step_skip (g := 5) (b := false) (d := 18) rfl rfl (fun a w hc => hc 5 18 rfl rfl) (fun _ => trivial)
      · exact calm_step_skip (g := 5) (b := false) (d := 18) rfl rfl (fun a w hc => hc 5 18 rfl rfl) (fun _ => trivial)
      · exact calm_step_skip (g := 5) (b := false) (d := 18) rfl rfl (fun a w hc => hc 5 18 rfl rfl) (fun _ => trivial)
      · exact calm_step_skip (g := 5) (b := false) (d := 18) rfl rfl (fun a w hc => hc 5 18 rfl rfl) (fun _ => trivial)
      · refine calm_step rfl fun a ω κ hb hu hc hK => ?_
        have h18 : a.tmps[18]?.getD undef = .bool true := hc 5 18 rfl rfl
        have h23 : (SRel.any).p (a.tmps[23]?.getD undef) ω := hc 10 23 rfl rfl
        have hk := Lib.hid (fun w1 (h : Below ω.heap.size ω w1) => hK (.bool true) w1 rfl h)
        clear hK hu hc
        go_simp
        exact hk.out _ (Below.refl _ _)
      · intro a1 w1 hb1 hu1 hsz1 hdf1 hc1
        have ha0 := hha0.out
        subst ha0
        have he := act_patch (n := 42) [false, false, false, false, false, false, false, false, false, false, false, false, false, true, true, true, true, true, true, true, true, true, true, true, true, false, false, false, false, false, false, false, false, false, false, false, false, false, false, false, false, false] rfl (by kernel_rfl) hu1 hsz1 hdf1
        simp only [patch, cond_true, cond_false, Nat.reduceAdd] at he
        have hkn24 : a1.tmps[24]?.getD undef = .bool true := hc1 11 24 rfl
        replace hA := Lib.hid (hA.out.step hb1)
        replace hL := Lib.hid (below_step hb1 hL.out (Nat.le_refl _))
        replace hX3 := Lib.hid (hX3.out.step hb1)
        replace hX4 := Lib.hid (hX4.out.step hb1)
        clear kNx kNy hqx hqy
        clear hb1 hu1 hsz1 hdf1 hc1 hz0 hha0 e1 e3 e4
        rw [he]
        clear he
        rw [hkn24]
        clear hkn24
        generalize a1.tmps[13]?.getD undef = x13 at *
        generalize a1.tmps[14]?.getD undef = x14 at *
        generalize a1.tmps[15]?.getD undef = x15 at *
        generalize a1.tmps[16]?.getD undef = x16 at *
        generalize a1.tmps[17]?.getD undef = x17 at *
        generalize a1.tmps[18]?.getD undef = x18 at *
        generalize a1.tmps[19]?.getD undef = x19 at *
        generalize a1.tmps[20]?.getD undef = x20 at *
        generalize a1.tmps[21]?.getD undef = x21 at *
        generalize a1.tmps[22]?.getD undef = x22 at *
        generalize a1.tmps[23]?.getD undef = x23 at *
        go_wp2_with fail
        exact ret_tmp (p := 2) (v := .bool false) rfl (by simp) rfl ⟨by rw [← hRR.out, hdx.out]; rfl, hL.out⟩

end Go.Proofs.Ytodcjeaannfbnaa
namespace Go.Proofs.Ytodcjeaannfbnaa
open Go.ChangeShapes Go.WideShapes Go.ChangeAt Go.RowKit
set_option maxHeartbeats 2000000
set_option maxRecDepth 100000
theorem load_f2 {w : World} {dst : Option Tmp} {x : Operand} {tt : TypeId} {pos : String} {af : Array Edge} {gd : Option (Nat × Bool)} {a : Act} {K : Act → World → Prop} {Q : Exit → Act → World → Prop}
    (hv : IsHead (a.eval x)) (h : Row w (blkOf (a.eval x)) 32) : Oper.wp Try.prog ⟨dst, .load 135 x, tt, pos, af, gd⟩ a w K Q ↔ K (a.put dst (.agg (rowAt w (blkOf (a.eval x))))) w :=
  wp_load_whole Try.underlying135 rfl (by kernel_rfl) hv h
theorem store_f2 {w : World} {dst : Option Tmp} {x y : Operand} {tt : TypeId} {pos : String} {af : Array Edge} {gd : Option (Nat × Bool)} {a : Act} {K : Act → World → Prop} {Q : Exit → Act → World → Prop}
    (hv : IsHead (a.eval x)) (h : Row w (blkOf (a.eval x)) 32) (hx : IsAgg (a.eval y) 32) : Oper.wp Try.prog ⟨dst, .store 135 x y, tt, pos, af, gd⟩ a w K Q ↔ K (a.put dst undef) (w.setRow (blkOf (a.eval x)) (cellsV (a.eval y))) :=
  wp_store_whole (by kernel_rfl) hv h hx
theorem execl_f2 {w : World} {dst : Option Tmp} {x : Operand} {tt : TypeId} {pos : String} {af : Array Edge} {gd : Option (Nat × Bool)} {ρ : Operand → Value}
    (hv : IsHead (ρ x)) (h : Row w (blkOf (ρ x)) 32) : (execOp ρ ⟨dst, .load 135 x, tt, pos, af, gd⟩).run Try.prog w = .ok (.value (.agg (rowAt w (blkOf (ρ x))))) w :=
  exec_load_whole Try.underlying135 rfl (by kernel_rfl) hv h
theorem execs_f2 {w : World} {dst : Option Tmp} {x y : Operand} {tt : TypeId} {pos : String} {af : Array Edge} {gd : Option (Nat × Bool)} {ρ : Operand → Value}
    (hv : IsHead (ρ x)) (h : Row w (blkOf (ρ x)) 32) (hx : IsAgg (ρ y) 32) : (execOp ρ ⟨dst, .store 135 x y, tt, pos, af, gd⟩).run Try.prog w = .ok .skip (w.setRow (blkOf (ρ x)) (cellsV (ρ y))) :=
  exec_store_whole (by kernel_rfl) hv h hx

def cat2L (f0 f1 : Nat → Nat) (i : Nat) : Nat := if i < 16 then f0 i else f1 (i - 16)
theorem zeroF2 : #[Value.int IntKind.i64 0, Value.int IntKind.i64 0, Value.int IntKind.i64 0, Value.int IntKind.i64 0, Value.int IntKind.i64 0, Value.int IntKind.i64 0, Value.int IntKind.i64 0, Value.int IntKind.i64 0, Value.int IntKind.i64 0, Value.int IntKind.i64 0, Value.int IntKind.i64 0, Value.int IntKind.i64 0, Value.int IntKind.i64 0, Value.int IntKind.i64 0, Value.int IntKind.i64 0, Value.int IntKind.i64 0, Value.int IntKind.i64 0, Value.int IntKind.i64 0, Value.int IntKind.i64 0, Value.int IntKind.i64 0, Value.int IntKind.i64 0, Value.int IntKind.i64 0, Value.int IntKind.i64 0, Value.int IntKind.i64 0, Value.int IntKind.i64 0, Value.int IntKind.i64 0, Value.int IntKind.i64 0, Value.int IntKind.i64 0, Value.int IntKind.i64 0, Value.int IntKind.i64 0, Value.int IntKind.i64 0, Value.int IntKind.i64 0] = arrK .i64 32 (cat2L (fun _ => 0) (fun _ => 0)) := by kernel_rfl
section
variable {w : World} {g : Nat} {f0 f1 : Nat → Nat}
theorem f2_0 (h : At w g .i64 32 (cat2L f0 f1)) : LdOk w 16 (.pointer (some ⟨g, 0, none⟩)) ∧ ldC w 16 (.pointer (some ⟨g, 0, none⟩)) = arrK .i64 16 f0 := by
  refine ⟨(h.fld (by omega)).1, (h.fld (by omega)).2.trans (arrK_congr fun i hi => ?_)⟩
  unfold cat2L; rw [if_pos (by omega), Nat.zero_add]
theorem f2_1 (h : At w g .i64 32 (cat2L f0 f1)) : LdOk w 16 (.pointer (some ⟨g, 16, none⟩)) ∧ ldC w 16 (.pointer (some ⟨g, 16, none⟩)) = arrK .i64 16 f1 := by
  refine ⟨(h.fld (by omega)).1, (h.fld (by omega)).2.trans (arrK_congr fun i hi => ?_)⟩
  unfold cat2L; rw [if_neg (by omega), Nat.add_sub_cancel_left]
end
def f2V (x z : Nat) : Value := .agg (arrK .i64 32 (cat2L (dgt x) (dgt z)))
theorem build_f2 (f0 f1 : Nat → Nat) (w : World) : (Instr.build 135 #[(0, .agg (arrK .i64 16 f0)), (1, .agg (arrK .i64 16 f1))]).run Try.prog w = .ok (.agg (arrK .i64 32 (cat2L f0 f1))) w := run_build w _ _ _ (by kernel_rfl)
def SRel.nb (B n : Nat) : SRel := ⟨fun v w => ∃ g, v = .pointer (some ⟨g, 0, none⟩) ∧ B ≤ g ∧ Row w g n, fun _ _ _ hb ⟨g, h1, h2, h3⟩ => ⟨g, h1, h2, row_below h3 hb h3.lt⟩⟩
def SRel.sl1 (n : Nat) : SRel := ⟨fun v w => ∃ g, v = .slice (some ⟨g, 0, none⟩) 1 1 ∧ At w g .u64 1 (fun _ => n), fun _ _ _ hb ⟨g, h1, h2⟩ => ⟨g, h1, h2.step hb⟩⟩
theorem digits_one {v : Value} {n : Nat} (w : World) (hn : n < 18446744073709551616) (h : ∃ g, v = .slice (some ⟨g, 0, none⟩) 1 1 ∧ At w g .u64 1 (fun _ => n)) : Calls Try.prog 106 #[v] w (RetN n w) := by
  obtain ⟨g, rfl, hA⟩ := h
  have hR := hA.row
  obtain ⟨cs, t, hg, hs⟩ := hR
  have hcs : cs = arrK .u64 1 fun _ => n := by rw [← hA.eq]; simp [rowAt, hg]
  have h := ref_Digits (some ⟨g, 0, none⟩) 1 1 (fun _ => n) w (by rw [← hcs]; exact Rd.of_blk hg hA.lt) (by omega) (by omega) (by omega) (fun _ _ => hn)
  have hv : wval (fun _ => n) 1 = n := by show 0 + 2 ^ (64 * 0) * n = n; rw [Nat.mul_zero, Nat.pow_zero, Nat.one_mul, Nat.zero_add]
  rw [hv] at h
  exact h
attribute [local go_sem ↓] load_fld load_feP load_num store_num load_fe store_fe load_pt store_pt load_f2 store_f2
attribute [local go_sem] isHead_mk blkOf_mk isAgg_mk cellsV_mk row_drew rowAt_drew row_new_cells row_old rowAt_new rowAt_old setRow_new zeroNum zeroPt zeroFe zeroF2
theorem ref_double (x z xx zz xz vd vm s0 sm vf r1 r2 : Nat) (w : World) (hx : x < 2 ^ 256) (hz : z < 2 ^ 256) (hxx : x * x % fP = xx) (hzz : z * z % fP = zz) (hxz : x * z % fP = xz) (hvd : lessM xx zz = vd) (hvm : 486662 * xz % fP = vm) (hs0 : (xx + vm) % fP = s0) (hsm : (s0 + zz) % fP = sm) (hvf : 4 * xz % fP = vf) (hr1 : vd * vd % fP = r1) (hr2 : vf * sm % fP = r2) : Calls Try.prog 154 #[f2V x z] w fun e w' => e = .returned (f2V r1 r2) ∧ Below w.heap.size w w' := by
  have hc486 : 486662 < 2 ^ 256 := by decide +kernel
  have hc4 : 4 < 2 ^ 256 := by decide +kernel
  have lxx : xx < 2 ^ 256 := hxx ▸ low_lt
  have lzz : zz < 2 ^ 256 := hzz ▸ low_lt
  have lxz : xz < 2 ^ 256 := hxz ▸ low_lt
  have lvd : vd < 2 ^ 256 := hvd ▸ less_low
  have lvm : vm < 2 ^ 256 := hvm ▸ low_lt
  have ls0 : s0 < 2 ^ 256 := hs0 ▸ low_lt
  have lsm : sm < 2 ^ 256 := hsm ▸ low_lt
  have lvf : vf < 2 ^ 256 := hvf ▸ low_lt
  have lr1 : r1 < 2 ^ 256 := hr1 ▸ low_lt
  have lr2 : r2 < 2 ^ 256 := hr2 ▸ low_lt
  have kxx := Lib.hid (fun V => fe_By x x V hx hx)
  rw [hxx] at kxx
  have kzz := Lib.hid (fun V => fe_By z z V hz hz)
  rw [hzz] at kzz
  have kxz := Lib.hid (fun V => fe_By x z V hx hz)
  rw [hxz] at kxz
  have kvd := Lib.hid (fun V => fe_Less xx zz V lxx lzz)
  rw [show (xx + 4 * fP - zz) % fP = vd from hvd] at kvd
  have kvm := Lib.hid (fun V => fe_By 486662 xz V hc486 lxz)
  rw [hvm] at kvm
  have ks0 := Lib.hid (fun V => fe_Plus xx vm V lxx lvm)
  rw [hs0] at ks0
  have ksm := Lib.hid (fun V => fe_Plus s0 zz V ls0 lzz)
  rw [hsm] at ksm
  have kvf := Lib.hid (fun V => fe_By 4 xz V hc4 lxz)
  rw [hvf] at kvf
  have kr1 := Lib.hid (fun V => fe_By vd vd V lvd lvd)
  rw [hr1] at kr1
  have kr2 := Lib.hid (fun V => fe_By vf sm V lvf lsm)
  rw [hr2] at kr2
  have kD := Lib.hid (fun (v : Value) V (h : ∃ g, v = .slice (some ⟨g, 0, none⟩) 1 1 ∧ At V g .u64 1 (fun _ => 486662)) => digits_one V (by omega) h)
  have kFe := Lib.hid (fun (v : Value) V (h : IsN V v 486662) => ref_feOf V (h.toV (lt_big hc486 (by omega))))
  have h1 := Lib.hid (fun V => ref_small 4 V (by omega))
  clear hc486 hc4 hx hz hxx lxx hzz lzz hxz lxz hvd lvd hvm lvm hs0 ls0 hsm lsm hvf lvf hr1 lr1 hr2 lr2
  unfold feV at kFe h1 kxx kzz kxz kvd kvm ks0 ksm kvf kr1 kr2
  rw [show ((4 : Nat) : Int) = 4 from rfl] at h1
  unfold f2V
  have hcr := arrK_cells .i64 32 (cat2L (dgt r1) (dgt r2))
  have hcz := arrK_cells .i64 32 (cat2L (fun _ => 0) (fun _ => 0))
  have hc0 := arrK_cells .i64 16 fun _ => 0
  have hcxx := arrK_cells .i64 16 (dgt xx)
  have hczz := arrK_cells .i64 16 (dgt zz)
  have hcxz := arrK_cells .i64 16 (dgt xz)
  have hcvd := arrK_cells .i64 16 (dgt vd)
  have hcsm := arrK_cells .i64 16 (dgt sm)
  have hL0 : Below w.heap.size w ((w.alloc (Obj.cells (arrK .i64 32 (cat2L (dgt x) (dgt z))) 135)).alloc (Obj.cells (arrK .i64 32 (cat2L (fun _ => 0) (fun _ => 0))) 135)) := by go_grown
  have hA0 : At ((w.alloc (Obj.cells (arrK .i64 32 (cat2L (dgt x) (dgt z))) 135)).alloc (Obj.cells (arrK .i64 32 (cat2L (fun _ => 0) (fun _ => 0))) 135)) w.heap.size .i64 32 (cat2L (dgt x) (dgt z)) := (At.new _ rfl).old _
  have hR0 : Row ((w.alloc (Obj.cells (arrK .i64 32 (cat2L (dgt x) (dgt z))) 135)).alloc (Obj.cells (arrK .i64 32 (cat2L (fun _ => 0) (fun _ => 0))) 135)) (w.heap.size + 1) 32 := (At.new (k := .i64) (f := (cat2L (fun _ => 0) (fun _ => 0))) _ (by simp)).row
  have hL := Lib.hid hL0
  have hA := Lib.hid hA0
  have hR := Lib.hid hR0
  clear hL0 hA0 hR0
  go_enter Try.func154, Try.ntmps154
  go_upto_region 1 with (fail)
  generalize (w.alloc _).alloc _ = W0 at *
  generalize ha0 : Act.mk _ _ = a0
  have e1 : a0.tmps[1]?.getD undef = .pointer (some ⟨w.heap.size, 0, none⟩) := by rw [← ha0]; rfl
  have hz0 : a0.tmps.size = 44 := by rw [← ha0]; rfl
  have hha0 := Lib.hid ha0
  clear ha0
  refine wp_region_fresh ⟨fun jx_ => match jx_ with | 0 => some (.pointer (some ⟨w.heap.size, 0, none⟩)) | 1 => some (.agg (arrK .i64 16 (dgt x))) | 2 => some (.pointer (some ⟨w.heap.size, 0, none⟩)) | 3 => some (.agg (arrK .i64 16 (dgt x))) | 4 => some (.agg (arrK .i64 16 (dgt xx))) | 5 => some (.pointer (some ⟨w.heap.size, 16, none⟩)) | 6 => some (.agg (arrK .i64 16 (dgt z))) | 7 => some (.pointer (some ⟨w.heap.size, 16, none⟩)) | 8 => some (.agg (arrK .i64 16 (dgt z))) | 9 => some (.agg (arrK .i64 16 (dgt zz))) | 10 => some (.pointer (some ⟨w.heap.size, 0, none⟩)) | 11 => some (.agg (arrK .i64 16 (dgt x))) | 12 => some (.pointer (some ⟨w.heap.size, 16, none⟩)) | 13 => some (.agg (arrK .i64 16 (dgt z))) | 14 => some (.agg (arrK .i64 16 (dgt xz))) | _ => none, fun jx_ => match jx_ with | 15 => some 16 | 16 => some 16 | 17 => some 16 | _ => none, fun jx_ => match jx_ with | 18 => some 15 | 19 => some 16 | 20 => some 17 | _ => none, fun jx_ => match jx_ with | 18 => arrK .i64 16 (dgt xx) | 19 => arrK .i64 16 (dgt zz) | 20 => arrK .i64 16 (dgt xz) | _ => #[]⟩ (by kernel_rfl) (by kernel_rfl) (by kernel_rfl) (slotsOk_of hz0 (by kernel_rfl)) rfl ⟨?_, ?_, ?_, ?_, ?_, ?_, ?_, ?_, ?_, ?_, ?_, ?_, ?_, ?_, ?_, ?_, ?_, ?_, ?_, ?_, ?_, trivial⟩ ?_
  · refine fstep_val rfl rfl (calm_step rfl fun aa ω κ hb hu hc hK => ?_)
    have h1 : aa.tmps[1]?.getD undef = .pointer (some ⟨w.heap.size, 0, none⟩) := (hu 1 rfl).trans e1
    have hk := Lib.hid (fun w1 (h : Below ω.heap.size ω w1) => hK (.pointer (some ⟨w.heap.size, 0, none⟩)) w1 rfl h)
    clear hK hu hc
    go_simp
    exact hk.out _ (Below.refl _ _)
  · refine fstep_val rfl rfl (calm_step rfl fun aa ω κ hb hu hc hK => ?_)
    have h8 : aa.tmps[8]?.getD undef = .pointer (some ⟨w.heap.size, 0, none⟩) := hc 0 8 rfl rfl
    have hk := Lib.hid (fun w1 (h : Below ω.heap.size ω w1) => hK (.agg (arrK .i64 16 (dgt x))) w1 rfl h)
    clear hK hu hc
    have hl := f2_0 (hA.out.step hb)
    have hl1 := hl.1
    have hl2 := hl.2
    go_simp
    exact hk.out _ (Below.refl _ _)
  · refine fstep_val rfl rfl (calm_step rfl fun aa ω κ hb hu hc hK => ?_)
    have h1 : aa.tmps[1]?.getD undef = .pointer (some ⟨w.heap.size, 0, none⟩) := (hu 1 rfl).trans e1
    have hk := Lib.hid (fun w1 (h : Below ω.heap.size ω w1) => hK (.pointer (some ⟨w.heap.size, 0, none⟩)) w1 rfl h)
    clear hK hu hc
    go_simp
    exact hk.out _ (Below.refl _ _)
  · refine fstep_val rfl rfl (calm_step rfl fun aa ω κ hb hu hc hK => ?_)
    have h10 : aa.tmps[10]?.getD undef = .pointer (some ⟨w.heap.size, 0, none⟩) := hc 2 10 rfl rfl
    have hk := Lib.hid (fun w1 (h : Below ω.heap.size ω w1) => hK (.agg (arrK .i64 16 (dgt x))) w1 rfl h)
    clear hK hu hc
    have hl := f2_0 (hA.out.step hb)
    have hl1 := hl.1
    have hl2 := hl.2
    go_simp
    exact hk.out _ (Below.refl _ _)
  · refine fstep_val rfl rfl (calm_step rfl fun aa ω κ hb hu hc hK => ?_)
    have h9 : aa.tmps[9]?.getD undef = .agg (arrK .i64 16 (dgt x)) := hc 1 9 rfl rfl
    have h11 : aa.tmps[11]?.getD undef = .agg (arrK .i64 16 (dgt x)) := hc 3 11 rfl rfl
    have hk := Lib.hid (fun w1 (h : Below ω.heap.size ω w1) => hK (.agg (arrK .i64 16 (dgt xx))) w1 rfl h)
    clear hK hu hc
    go_simp
    go_at_call 25
    refine (kxx.out _).mono ?_
    rintro e w1 ⟨rfl, hb1⟩
    exact hk.out _ hb1
  · refine fstep_val rfl rfl (calm_step rfl fun aa ω κ hb hu hc hK => ?_)
    have h1 : aa.tmps[1]?.getD undef = .pointer (some ⟨w.heap.size, 0, none⟩) := (hu 1 rfl).trans e1
    have hk := Lib.hid (fun w1 (h : Below ω.heap.size ω w1) => hK (.pointer (some ⟨w.heap.size, 16, none⟩)) w1 rfl h)
    clear hK hu hc
    go_simp
    exact hk.out _ (Below.refl _ _)
  · refine fstep_val rfl rfl (calm_step rfl fun aa ω κ hb hu hc hK => ?_)
    have h13 : aa.tmps[13]?.getD undef = .pointer (some ⟨w.heap.size, 16, none⟩) := hc 5 13 rfl rfl
    have hk := Lib.hid (fun w1 (h : Below ω.heap.size ω w1) => hK (.agg (arrK .i64 16 (dgt z))) w1 rfl h)
    clear hK hu hc
    have hl := f2_1 (hA.out.step hb)
    have hl1 := hl.1
    have hl2 := hl.2
    go_simp
    exact hk.out _ (Below.refl _ _)
  · refine fstep_val rfl rfl (calm_step rfl fun aa ω κ hb hu hc hK => ?_)
    have h1 : aa.tmps[1]?.getD undef = .pointer (some ⟨w.heap.size, 0, none⟩) := (hu 1 rfl).trans e1
    have hk := Lib.hid (fun w1 (h : Below ω.heap.size ω w1) => hK (.pointer (some ⟨w.heap.size, 16, none⟩)) w1 rfl h)
    clear hK hu hc
    go_simp
    exact hk.out _ (Below.refl _ _)
  · refine fstep_val rfl rfl (calm_step rfl fun aa ω κ hb hu hc hK => ?_)
    have h15 : aa.tmps[15]?.getD undef = .pointer (some ⟨w.heap.size, 16, none⟩) := hc 7 15 rfl rfl
    have hk := Lib.hid (fun w1 (h : Below ω.heap.size ω w1) => hK (.agg (arrK .i64 16 (dgt z))) w1 rfl h)
    clear hK hu hc
    have hl := f2_1 (hA.out.step hb)
    have hl1 := hl.1
    have hl2 := hl.2
    go_simp
    exact hk.out _ (Below.refl _ _)
  · refine fstep_val rfl rfl (calm_step rfl fun aa ω κ hb hu hc hK => ?_)
    have h14 : aa.tmps[14]?.getD undef = .agg (arrK .i64 16 (dgt z)) := hc 6 14 rfl rfl
    have h16 : aa.tmps[16]?.getD undef = .agg (arrK .i64 16 (dgt z)) := hc 8 16 rfl rfl
    have hk := Lib.hid (fun w1 (h : Below ω.heap.size ω w1) => hK (.agg (arrK .i64 16 (dgt zz))) w1 rfl h)
    clear hK hu hc
    go_simp
    go_at_call 25
    refine (kzz.out _).mono ?_
    rintro e w1 ⟨rfl, hb1⟩
    exact hk.out _ hb1
  · refine fstep_val rfl rfl (calm_step rfl fun aa ω κ hb hu hc hK => ?_)
    have h1 : aa.tmps[1]?.getD undef = .pointer (some ⟨w.heap.size, 0, none⟩) := (hu 1 rfl).trans e1
    have hk := Lib.hid (fun w1 (h : Below ω.heap.size ω w1) => hK (.pointer (some ⟨w.heap.size, 0, none⟩)) w1 rfl h)
    clear hK hu hc
    go_simp
    exact hk.out _ (Below.refl _ _)
  · refine fstep_val rfl rfl (calm_step rfl fun aa ω κ hb hu hc hK => ?_)
    have h18 : aa.tmps[18]?.getD undef = .pointer (some ⟨w.heap.size, 0, none⟩) := hc 10 18 rfl rfl
    have hk := Lib.hid (fun w1 (h : Below ω.heap.size ω w1) => hK (.agg (arrK .i64 16 (dgt x))) w1 rfl h)
    clear hK hu hc
    have hl := f2_0 (hA.out.step hb)
    have hl1 := hl.1
    have hl2 := hl.2
    go_simp
    exact hk.out _ (Below.refl _ _)
  · refine fstep_val rfl rfl (calm_step rfl fun aa ω κ hb hu hc hK => ?_)
    have h1 : aa.tmps[1]?.getD undef = .pointer (some ⟨w.heap.size, 0, none⟩) := (hu 1 rfl).trans e1
    have hk := Lib.hid (fun w1 (h : Below ω.heap.size ω w1) => hK (.pointer (some ⟨w.heap.size, 16, none⟩)) w1 rfl h)
    clear hK hu hc
    go_simp
    exact hk.out _ (Below.refl _ _)
  · refine fstep_val rfl rfl (calm_step rfl fun aa ω κ hb hu hc hK => ?_)
    have h20 : aa.tmps[20]?.getD undef = .pointer (some ⟨w.heap.size, 16, none⟩) := hc 12 20 rfl rfl
    have hk := Lib.hid (fun w1 (h : Below ω.heap.size ω w1) => hK (.agg (arrK .i64 16 (dgt z))) w1 rfl h)
    clear hK hu hc
    have hl := f2_1 (hA.out.step hb)
    have hl1 := hl.1
    have hl2 := hl.2
    go_simp
    exact hk.out _ (Below.refl _ _)
  · refine fstep_val rfl rfl (calm_step rfl fun aa ω κ hb hu hc hK => ?_)
    have h19 : aa.tmps[19]?.getD undef = .agg (arrK .i64 16 (dgt x)) := hc 11 19 rfl rfl
    have h21 : aa.tmps[21]?.getD undef = .agg (arrK .i64 16 (dgt z)) := hc 13 21 rfl rfl
    have hk := Lib.hid (fun w1 (h : Below ω.heap.size ω w1) => hK (.agg (arrK .i64 16 (dgt xz))) w1 rfl h)
    clear hK hu hc
    go_simp
    go_at_call 25
    refine (kxz.out _).mono ?_
    rintro e w1 ⟨rfl, hb1⟩
    exact hk.out _ hb1
  · refine fstep_al (n := 16) rfl rfl fun aa ω κ hK => ?_
    have hk := Lib.hid hK
    clear hK
    go_simp
    exact hk.out _ _ hc0
  · refine fstep_al (n := 16) rfl rfl fun aa ω κ hK => ?_
    have hk := Lib.hid hK
    clear hK
    go_simp
    exact hk.out _ _ hc0
  · refine fstep_al (n := 16) rfl rfl fun aa ω κ hK => ?_
    have hk := Lib.hid hK
    clear hK
    go_simp
    exact hk.out _ _ hc0
  · refine fstep_st (j := 15) (n := 16) (d := 3) rfl rfl rfl rfl rfl hcxx.1 rfl rfl fun aa ω κ g hb hu hc hp hr hK => ?_
    have h12 : aa.tmps[12]?.getD undef = .agg (arrK .i64 16 (dgt xx)) := hc 4 12 rfl rfl
    have hk := Lib.hid hK
    clear hK hu hc
    have hcc := hcxx
    go_simp
    exact hk.out undef
  · refine fstep_st (j := 16) (n := 16) (d := 4) rfl rfl rfl rfl rfl hczz.1 rfl rfl fun aa ω κ g hb hu hc hp hr hK => ?_
    have h17 : aa.tmps[17]?.getD undef = .agg (arrK .i64 16 (dgt zz)) := hc 9 17 rfl rfl
    have hk := Lib.hid hK
    clear hK hu hc
    have hcc := hczz
    go_simp
    exact hk.out undef
  · refine fstep_st (j := 17) (n := 16) (d := 5) rfl rfl rfl rfl rfl hcxz.1 rfl rfl fun aa ω κ g hb hu hc hp hr hK => ?_
    have h22 : aa.tmps[22]?.getD undef = .agg (arrK .i64 16 (dgt xz)) := hc 14 22 rfl rfl
    have hk := Lib.hid hK
    clear hK hu hc
    have hcc := hcxz
    go_simp
    exact hk.out undef
  · intro a1 w1 G I
    have ha0 := hha0.out
    subst ha0
    have he := act_patch (n := 44) [false, false, false, true, true, true, false, false, true, true, true, true, true, true, true, true, true, true, true, true, true, true, true, false, false, false, false, false, false, false, false, false, false, false, false, false, false, false, false, false, false, false, false, false] rfl (by kernel_rfl) I.un I.sz I.df
    simp only [patch, cond_true, cond_false, Nat.reduceAdd] at he
    have hal3 := I.al 15 3 16 rfl rfl rfl
    have hal4 := I.al 16 4 16 rfl rfl rfl
    have hal5 := I.al 17 5 16 rfl rfl rfl
    replace hA := Lib.hid (hA.out.step I.bel)
    replace hR := Lib.hid (row_below hR.out I.bel hR.out.lt)
    replace hL := Lib.hid (below_step I.bel hL.out (Nat.le_refl _))
    have hX3 := Lib.hid (show At w1 (G 15) .i64 16 (dgt xx) from ⟨(I.blk 15 16 rfl rfl).2, (I.row 18 15 rfl rfl).2.2⟩)
    have hX4 := Lib.hid (show At w1 (G 16) .i64 16 (dgt zz) from ⟨(I.blk 16 16 rfl rfl).2, (I.row 19 16 rfl rfl).2.2⟩)
    have hX5 := Lib.hid (show At w1 (G 17) .i64 16 (dgt xz) from ⟨(I.blk 17 16 rfl rfl).2, (I.row 20 17 rfl rfl).2.2⟩)
    clear kxx kzz kxz
    clear I hz0 hha0 e1
    rw [he]
    clear he
    rw [hal3]
    rw [hal4]
    rw [hal5]
    clear hal3 hal4 hal5
    generalize a1.tmps[8]?.getD undef = x8 at *
    generalize a1.tmps[9]?.getD undef = x9 at *
    generalize a1.tmps[10]?.getD undef = x10 at *
    generalize a1.tmps[11]?.getD undef = x11 at *
    generalize a1.tmps[12]?.getD undef = x12 at *
    generalize a1.tmps[13]?.getD undef = x13 at *
    generalize a1.tmps[14]?.getD undef = x14 at *
    generalize a1.tmps[15]?.getD undef = x15 at *
    generalize a1.tmps[16]?.getD undef = x16 at *
    generalize a1.tmps[17]?.getD undef = x17 at *
    generalize a1.tmps[18]?.getD undef = x18 at *
    generalize a1.tmps[19]?.getD undef = x19 at *
    generalize a1.tmps[20]?.getD undef = x20 at *
    generalize a1.tmps[21]?.getD undef = x21 at *
    generalize a1.tmps[22]?.getD undef = x22 at *
    obtain ⟨g3, hgz⟩ : ∃ g, G 15 = g := ⟨_, rfl⟩
    rw [hgz] at hX3 ⊢
    clear hgz
    obtain ⟨g4, hgz⟩ : ∃ g, G 16 = g := ⟨_, rfl⟩
    rw [hgz] at hX4 ⊢
    clear hgz
    obtain ⟨g5, hgz⟩ : ∃ g, G 17 = g := ⟨_, rfl⟩
    rw [hgz] at hX5 ⊢
    clear hgz
    generalize w1 = W1 at *
    go_upto_region 2 with (fail)
    have hr1 := hX3.out.row
    have hr2 := hX3.out.eq
    have hr3 := hX4.out.row
    have hr4 := hX4.out.eq
    go_upto_region 3 with (fail)
    refine (kvd.out _).mono ?_
    rintro e w2 ⟨rfl, hb⟩
    replace hR := Lib.hid (row_below hR.out hb hR.out.lt)
    replace hL := Lib.hid (below_step hb hL.out (Nat.le_refl _))
    replace hX3 := Lib.hid (hX3.out.step hb)
    replace hX4 := Lib.hid (hX4.out.step hb)
    replace hX5 := Lib.hid (hX5.out.step hb)
    clear hr1 hr2 hr3 hr4 hb hA kvd
    have hlt := hR.out.lt
    replace hR := Lib.hid ((row_old (o := (Obj.cells (arrK .i64 16 (dgt vd)) 26)) hR.out.lt).2 hR.out)
    replace hL := Lib.hid (Below.trans hL.out ((below_alloc w2 (Obj.cells (arrK .i64 16 (dgt vd)) 26)).mono hL.out.size))
    replace hX3 := Lib.hid (hX3.out.old (Obj.cells (arrK .i64 16 (dgt vd)) 26))
    replace hX4 := Lib.hid (hX4.out.old (Obj.cells (arrK .i64 16 (dgt vd)) 26))
    replace hX5 := Lib.hid (hX5.out.old (Obj.cells (arrK .i64 16 (dgt vd)) 26))
    have hX6 := Lib.hid (At.new (w := w2) (k := .i64) (m := 16) (f := dgt vd) 26 rfl)
    dsimp only
    go_upto_region 3 with (fail)
    obtain ⟨g6, hg⟩ : ∃ g, w2.heap.size = g := ⟨_, rfl⟩
    rw [hg] at hX6 hlt ⊢
    clear hg hlt
    generalize w2.alloc _ = W2 at *
    obtain ⟨b2, hb2'⟩ : ∃ b, W2.heap.size = b := ⟨_, rfl⟩
    have hb2 := Lib.hid hb2'
    clear hb2'
    generalize ha0 : Act.mk _ _ = a0
    have e3 : a0.tmps[3]?.getD undef = .pointer (some ⟨g3, 0, none⟩) := by rw [← ha0]; rfl
    have e4 : a0.tmps[4]?.getD undef = .pointer (some ⟨g4, 0, none⟩) := by rw [← ha0]; rfl
    have e5 : a0.tmps[5]?.getD undef = .pointer (some ⟨g5, 0, none⟩) := by rw [← ha0]; rfl
    have hz0 : a0.tmps.size = 44 := by rw [← ha0]; rfl
    have hha0 := Lib.hid ha0
    clear ha0
    refine wp_region_tail (fun jx_ => match jx_ with | 0 => SRel.is (.agg (arrK .i64 16 (dgt xx))) | 1 => SRel.sl1 486662 | 2 => SRel.fN 486662 | 3 => SRel.is (.agg (arrK .i64 16 (dgt 486662))) | 4 => SRel.is (.agg (arrK .i64 16 (dgt xz))) | 5 => SRel.is (.agg (arrK .i64 16 (dgt vm))) | 6 => SRel.is (.agg (arrK .i64 16 (dgt s0))) | 7 => SRel.is (.agg (arrK .i64 16 (dgt zz))) | 8 => SRel.is (.agg (arrK .i64 16 (dgt sm))) | 9 => SRel.nb b2 16 | 10 => SRel.any | _ => SRel.any) 10 (by kernel_rfl) (by kernel_rfl) (by kernel_rfl) (slotsOk_of hz0 (by kernel_rfl)) (by kernel_rfl) ⟨?_, ?_, ?_, ?_, ?_, ?_, ?_, ?_, ?_, ?_, ?_, trivial⟩ (of_decide_eq_true (by kernel_rfl))
    · rw [if_neg (by decide)]
      refine calmT_step rfl fun a ω κ hb hu hc hK => ?_
      have h3 : a.tmps[3]?.getD undef = .pointer (some ⟨g3, 0, none⟩) := (hu 3 rfl).trans e3
      have hk := Lib.hid (fun w1 (h : Below ω.heap.size ω w1) => hK (.agg (arrK .i64 16 (dgt xx))) w1 rfl h)
      clear hK hu hc
      have hr1 := (hX3.out.step hb).row
      have hr2 := (hX3.out.step hb).eq
      go_simp
      exact hk.out _ (Below.refl _ _)
    · rw [if_neg (by decide)]
      refine calmT_step rfl fun a ω κ hb hu hc hK => ?_
      have hk := Lib.hid (fun v w1 (hv : (SRel.sl1 486662).p v w1) (h : Below ω.heap.size ω w1) => hK v w1 hv h)
      clear hK hu hc
      go_simp
      exact hk.out _ _ ⟨_, rfl, At.new (k := .u64) (m := 1) (f := fun _ => 486662) _ rfl⟩ (below_alloc _ _)
    · rw [if_neg (by decide)]
      refine calmT_step rfl fun a ω κ hb hu hc hK => ?_
      have h27 : (SRel.sl1 486662).p (a.tmps[27]?.getD undef) ω := hc 1 27 rfl rfl
      have hk := Lib.hid (fun v w1 (hv : (SRel.fN 486662).p v w1) (h : Below ω.heap.size ω w1) => hK v w1 hv h)
      clear hK hu hc
      go_simp
      go_at_call 106
      refine (kD.out _ _ h27).mono ?_
      rintro e w1 ⟨u, rfl, hu1, hb1⟩
      exact hk.out _ _ hu1 hb1
    · rw [if_neg (by decide)]
      refine calmT_step rfl fun a ω κ hb hu hc hK => ?_
      have h28 : (SRel.fN 486662).p (a.tmps[28]?.getD undef) ω := hc 2 28 rfl rfl
      have hk := Lib.hid (fun w1 (h : Below ω.heap.size ω w1) => hK (.agg (arrK .i64 16 (dgt 486662))) w1 rfl h)
      clear hK hu hc
      go_simp
      go_at_call 85
      refine (kFe.out _ _ h28).mono ?_
      rintro e w1 ⟨rfl, hb1⟩
      exact hk.out _ hb1
    · rw [if_neg (by decide)]
      refine calmT_step rfl fun a ω κ hb hu hc hK => ?_
      have h5 : a.tmps[5]?.getD undef = .pointer (some ⟨g5, 0, none⟩) := (hu 5 rfl).trans e5
      have hk := Lib.hid (fun w1 (h : Below ω.heap.size ω w1) => hK (.agg (arrK .i64 16 (dgt xz))) w1 rfl h)
      clear hK hu hc
      have hr1 := (hX5.out.step hb).row
      have hr2 := (hX5.out.step hb).eq
      go_simp
      exact hk.out _ (Below.refl _ _)
    · rw [if_neg (by decide)]
      refine calmT_step rfl fun a ω κ hb hu hc hK => ?_
      have h29 : a.tmps[29]?.getD undef = .agg (arrK .i64 16 (dgt 486662)) := hc 3 29 rfl rfl
      have h30 : a.tmps[30]?.getD undef = .agg (arrK .i64 16 (dgt xz)) := hc 4 30 rfl rfl
      have hk := Lib.hid (fun w1 (h : Below ω.heap.size ω w1) => hK (.agg (arrK .i64 16 (dgt vm))) w1 rfl h)
      clear hK hu hc
      go_simp
      go_at_call 25
      refine (kvm.out _).mono ?_
      rintro e w1 ⟨rfl, hb1⟩
      exact hk.out _ hb1
    · rw [if_neg (by decide)]
      refine calmT_step rfl fun a ω κ hb hu hc hK => ?_
      have h26 : a.tmps[26]?.getD undef = .agg (arrK .i64 16 (dgt xx)) := hc 0 26 rfl rfl
      have h31 : a.tmps[31]?.getD undef = .agg (arrK .i64 16 (dgt vm)) := hc 5 31 rfl rfl
      have hk := Lib.hid (fun w1 (h : Below ω.heap.size ω w1) => hK (.agg (arrK .i64 16 (dgt s0))) w1 rfl h)
      clear hK hu hc
      go_simp
      go_at_call 21
      refine (ks0.out _).mono ?_
      rintro e w1 ⟨rfl, hb1⟩
      exact hk.out _ hb1
    · rw [if_neg (by decide)]
      refine calmT_step rfl fun a ω κ hb hu hc hK => ?_
      have h4 : a.tmps[4]?.getD undef = .pointer (some ⟨g4, 0, none⟩) := (hu 4 rfl).trans e4
      have hk := Lib.hid (fun w1 (h : Below ω.heap.size ω w1) => hK (.agg (arrK .i64 16 (dgt zz))) w1 rfl h)
      clear hK hu hc
      have hr1 := (hX4.out.step hb).row
      have hr2 := (hX4.out.step hb).eq
      go_simp
      exact hk.out _ (Below.refl _ _)
    · rw [if_neg (by decide)]
      refine calmT_step rfl fun a ω κ hb hu hc hK => ?_
      have h32 : a.tmps[32]?.getD undef = .agg (arrK .i64 16 (dgt s0)) := hc 6 32 rfl rfl
      have h33 : a.tmps[33]?.getD undef = .agg (arrK .i64 16 (dgt zz)) := hc 7 33 rfl rfl
      have hk := Lib.hid (fun w1 (h : Below ω.heap.size ω w1) => hK (.agg (arrK .i64 16 (dgt sm))) w1 rfl h)
      clear hK hu hc
      go_simp
      go_at_call 21
      refine (ksm.out _).mono ?_
      rintro e w1 ⟨rfl, hb1⟩
      exact hk.out _ hb1
    · rw [if_neg (by decide)]
      refine calmT_step rfl fun a ω κ hb hu hc hK => ?_
      have hk := Lib.hid (fun v w1 (hv : (SRel.nb b2 16).p v w1) (h : Below ω.heap.size ω w1) => hK v w1 hv h)
      clear hK hu hc
      go_simp
      exact hk.out _ _ ⟨_, rfl, hb2.out ▸ hb.size, (row_new rfl).2 hc0.1⟩ (below_alloc _ _)
    · rw [if_pos rfl]
      refine last_of rfl fun aa ω hb hu hsz hdf hc => ?_
      have h7 : (SRel.nb b2 16).p (aa.tmps[7]?.getD undef) ω := hc 9 7 (by decide) rfl
      have h34 : aa.tmps[34]?.getD undef = .agg (arrK .i64 16 (dgt sm)) := hc 8 34 (by decide) rfl
      have hHz := Lib.hid (And.intro hu (And.intro hsz hdf))
      clear hc hu hsz hdf hz0
      obtain ⟨g7, hg7, hge, hrow⟩ := h7
      have b2e := hb2.out
      have q3 := hX3.out.lt
      have q4 := hX4.out.lt
      have q5 := hX5.out.lt
      have q6 := hX6.out.lt
      have qR := hR.out.lt
      have qL := hL.out.size
      replace hR := Lib.hid ((row_setRow_far (c' := arrK .i64 16 (dgt sm)) (show w.heap.size + 1 ≠ g7 by omega)).2 (row_below hR.out hb hR.out.lt))
      replace hL := Lib.hid (below_setRow (c := arrK .i64 16 (dgt sm)) (below_step hb hL.out (Nat.le_refl _)) (show w.heap.size ≤ g7 by omega))
      replace hX5 := Lib.hid ((hX5.out.step hb).far (c := arrK .i64 16 (dgt sm)) (show g5 ≠ g7 by omega))
      replace hX6 := Lib.hid ((hX6.out.step hb).far (c := arrK .i64 16 (dgt sm)) (show g6 ≠ g7 by omega))
      have hX7 := Lib.hid (At.put (k := .i64) (f := dgt sm) hrow)
      clear q3 q4 q5 q6 qR qL b2e hge
      go_simp
      have ha0 := hha0.out
      subst ha0
      have he := act_patchT (n := 44) 10 [false, false, false, false, false, false, false, true, false, false, false, false, false, false, false, false, false, false, false, false, false, false, false, false, false, false, true, true, true, true, true, true, true, true, true, false, false, false, false, false, false, false, false, false] rfl (by kernel_rfl) hHz.out.1 hHz.out.2.1 hHz.out.2.2
      simp only [patch, cond_true, cond_false, Nat.reduceAdd] at he
      clear hHz hha0 e3 e4 e5
      rw [he]
      clear he
      generalize aa.tmps[7]?.getD undef = x7 at *
      generalize aa.tmps[26]?.getD undef = x26 at *
      generalize aa.tmps[27]?.getD undef = x27 at *
      generalize aa.tmps[28]?.getD undef = x28 at *
      generalize aa.tmps[29]?.getD undef = x29 at *
      generalize aa.tmps[30]?.getD undef = x30 at *
      generalize aa.tmps[31]?.getD undef = x31 at *
      generalize aa.tmps[32]?.getD undef = x32 at *
      generalize aa.tmps[33]?.getD undef = x33 at *
      generalize aa.tmps[34]?.getD undef = x34 at *
      subst hg7
      go_upto_region 4 with (fail)
      generalize ω.setRow _ _ = W7 at *
      generalize ha0 : Act.mk _ _ = a0
      have e2 : a0.tmps[2]?.getD undef = .pointer (some ⟨w.heap.size + 1, 0, none⟩) := by rw [← ha0]; rfl
      have e5 : a0.tmps[5]?.getD undef = .pointer (some ⟨g5, 0, none⟩) := by rw [← ha0]; rfl
      have e6 : a0.tmps[6]?.getD undef = .pointer (some ⟨g6, 0, none⟩) := by rw [← ha0]; rfl
      have e7 : a0.tmps[7]?.getD undef = .pointer (some ⟨g7, 0, none⟩) := by rw [← ha0]; rfl
      have hz0 : a0.tmps.size = 44 := by rw [← ha0]; rfl
      have hha0 := Lib.hid ha0
      clear ha0
      refine wp_region_one (fun jx_ => match jx_ with | 0 => some (.agg (arrK .i64 16 (dgt vd))) | 1 => some (.agg (arrK .i64 16 (dgt vd))) | 2 => some (.agg (arrK .i64 16 (dgt r1))) | 3 => some (.agg (arrK .i64 16 (dgt 4))) | 4 => some (.agg (arrK .i64 16 (dgt xz))) | 5 => some (.agg (arrK .i64 16 (dgt vf))) | 6 => some (.agg (arrK .i64 16 (dgt sm))) | 7 => some (.agg (arrK .i64 16 (dgt r2))) | 8 => some (.agg (arrK .i64 32 (cat2L (dgt r1) (dgt r2)))) | _ => none) 9 ((w.heap.size + 1)) 32 (arrK .i64 32 (cat2L (dgt r1) (dgt r2))) (by kernel_rfl) (by kernel_rfl) (by kernel_rfl) (slotsOk_of hz0 (by kernel_rfl)) (of_decide_eq_true (by kernel_rfl)) hR.out ⟨?_, ?_, ?_, ?_, ?_, ?_, ?_, ?_, ?_, ?_, trivial⟩ ?_
      · refine one_before (by decide) (by kernel_rfl) (calm_step rfl fun aa ω κ hb hu hc hK => ?_)
        have h6 : aa.tmps[6]?.getD undef = .pointer (some ⟨g6, 0, none⟩) := (hu 6 rfl).trans e6
        have hk := Lib.hid (fun w1 (h : Below ω.heap.size ω w1) => hK (.agg (arrK .i64 16 (dgt vd))) w1 rfl h)
        clear hK hu hc
        have hr1 := (hX6.out.step hb).row
        have hr2 := (hX6.out.step hb).eq
        go_simp
        exact hk.out _ (Below.refl _ _)
      · refine one_before (by decide) (by kernel_rfl) (calm_step rfl fun aa ω κ hb hu hc hK => ?_)
        have h6 : aa.tmps[6]?.getD undef = .pointer (some ⟨g6, 0, none⟩) := (hu 6 rfl).trans e6
        have hk := Lib.hid (fun w1 (h : Below ω.heap.size ω w1) => hK (.agg (arrK .i64 16 (dgt vd))) w1 rfl h)
        clear hK hu hc
        have hr1 := (hX6.out.step hb).row
        have hr2 := (hX6.out.step hb).eq
        go_simp
        exact hk.out _ (Below.refl _ _)
      · refine one_before (by decide) (by kernel_rfl) (calm_step rfl fun aa ω κ hb hu hc hK => ?_)
        have h35 : aa.tmps[35]?.getD undef = .agg (arrK .i64 16 (dgt vd)) := hc 0 35 rfl rfl
        have h36 : aa.tmps[36]?.getD undef = .agg (arrK .i64 16 (dgt vd)) := hc 1 36 rfl rfl
        have hk := Lib.hid (fun w1 (h : Below ω.heap.size ω w1) => hK (.agg (arrK .i64 16 (dgt r1))) w1 rfl h)
        clear hK hu hc
        go_simp
        go_at_call 25
        refine (kr1.out _).mono ?_
        rintro e w1 ⟨rfl, hb1⟩
        exact hk.out _ hb1
      · refine one_before (by decide) (by kernel_rfl) (calm_step rfl fun aa ω κ hb hu hc hK => ?_)
        have hk := Lib.hid (fun w1 (h : Below ω.heap.size ω w1) => hK (.agg (arrK .i64 16 (dgt 4))) w1 rfl h)
        clear hK hu hc
        go_simp
        go_at_call 89
        refine (h1.out _).mono ?_
        rintro e w1 ⟨rfl, hb1⟩
        exact hk.out _ hb1
      · refine one_before (by decide) (by kernel_rfl) (calm_step rfl fun aa ω κ hb hu hc hK => ?_)
        have h5 : aa.tmps[5]?.getD undef = .pointer (some ⟨g5, 0, none⟩) := (hu 5 rfl).trans e5
        have hk := Lib.hid (fun w1 (h : Below ω.heap.size ω w1) => hK (.agg (arrK .i64 16 (dgt xz))) w1 rfl h)
        clear hK hu hc
        have hr1 := (hX5.out.step hb).row
        have hr2 := (hX5.out.step hb).eq
        go_simp
        exact hk.out _ (Below.refl _ _)
      · refine one_before (by decide) (by kernel_rfl) (calm_step rfl fun aa ω κ hb hu hc hK => ?_)
        have h38 : aa.tmps[38]?.getD undef = .agg (arrK .i64 16 (dgt 4)) := hc 3 38 rfl rfl
        have h39 : aa.tmps[39]?.getD undef = .agg (arrK .i64 16 (dgt xz)) := hc 4 39 rfl rfl
        have hk := Lib.hid (fun w1 (h : Below ω.heap.size ω w1) => hK (.agg (arrK .i64 16 (dgt vf))) w1 rfl h)
        clear hK hu hc
        go_simp
        go_at_call 25
        refine (kvf.out _).mono ?_
        rintro e w1 ⟨rfl, hb1⟩
        exact hk.out _ hb1
      · refine one_before (by decide) (by kernel_rfl) (calm_step rfl fun aa ω κ hb hu hc hK => ?_)
        have h7 : aa.tmps[7]?.getD undef = .pointer (some ⟨g7, 0, none⟩) := (hu 7 rfl).trans e7
        have hk := Lib.hid (fun w1 (h : Below ω.heap.size ω w1) => hK (.agg (arrK .i64 16 (dgt sm))) w1 rfl h)
        clear hK hu hc
        have hr1 := (hX7.out.step hb).row
        have hr2 := (hX7.out.step hb).eq
        go_simp
        exact hk.out _ (Below.refl _ _)
      · refine one_before (by decide) (by kernel_rfl) (calm_step rfl fun aa ω κ hb hu hc hK => ?_)
        have h40 : aa.tmps[40]?.getD undef = .agg (arrK .i64 16 (dgt vf)) := hc 5 40 rfl rfl
        have h41 : aa.tmps[41]?.getD undef = .agg (arrK .i64 16 (dgt sm)) := hc 6 41 rfl rfl
        have hk := Lib.hid (fun w1 (h : Below ω.heap.size ω w1) => hK (.agg (arrK .i64 16 (dgt r2))) w1 rfl h)
        clear hK hu hc
        go_simp
        go_at_call 25
        refine (kr2.out _).mono ?_
        rintro e w1 ⟨rfl, hb1⟩
        exact hk.out _ hb1
      · refine one_before (by decide) (by kernel_rfl) (calm_step rfl fun aa ω κ hb hu hc hK => ?_)
        have h37 : aa.tmps[37]?.getD undef = .agg (arrK .i64 16 (dgt r1)) := hc 2 37 rfl rfl
        have h42 : aa.tmps[42]?.getD undef = .agg (arrK .i64 16 (dgt r2)) := hc 7 42 rfl rfl
        have hk := Lib.hid (fun w1 (h : Below ω.heap.size ω w1) => hK (.agg (arrK .i64 32 (cat2L (dgt r1) (dgt r2)))) w1 rfl h)
        clear hK hu hc
        exact wp_bldB (v0 := .agg (arrK .i64 16 (dgt r1))) (v1 := .agg (arrK .i64 16 (dgt r2))) rfl (by go_simp) (by go_simp) (build_f2 _ _ _) (hk.out _ (Below.refl _ _))
      · refine one_q (one_write rfl rfl fun aa ω κ hb hu hc hr hK => ?_)
        have h2 : aa.tmps[2]?.getD undef = .pointer (some ⟨w.heap.size + 1, 0, none⟩) := (hu 2 rfl).trans e2
        have h43 : aa.tmps[43]?.getD undef = .agg (arrK .i64 32 (cat2L (dgt r1) (dgt r2))) := hc 8 43 rfl rfl
        have hk := Lib.hid hK
        clear hK hu hc
        have hcc := hcr
        go_simp
        exact hk.out undef
      · intro a1 w1 hb1 hu1 hsz1 hdf1 hv1
        have ha0 := hha0.out
        subst ha0
        have he := act_patch (n := 44) [false, false, false, false, false, false, false, false, false, false, false, false, false, false, false, false, false, false, false, false, false, false, false, false, false, false, false, false, false, false, false, false, false, false, false, true, true, true, true, true, true, true, true, true] rfl (by kernel_rfl) hu1 hsz1 hdf1
        simp only [patch, cond_true, cond_false, Nat.reduceAdd] at he
        have hXz := (At.put (k := .i64) (f := (cat2L (dgt r1) (dgt r2))) hR.out).below hb1 (by simpa using hR.out.lt)
        have hLz := Lib.hid (Below.trans (below_setRow (c := arrK .i64 32 (cat2L (dgt r1) (dgt r2))) hL.out (by omega)) (hb1.mono (by simpa using hL.out.size)))
        clear hR hL hX5 hX6 hX7 kr1 kvf kr2 h1
        clear hb1 hu1 hsz1 hdf1 hv1 hz0 hha0 e2 e5 e6 e7
        rw [he]
        clear he
        generalize a1.tmps[35]?.getD undef = x35 at *
        generalize a1.tmps[36]?.getD undef = x36 at *
        generalize a1.tmps[37]?.getD undef = x37 at *
        generalize a1.tmps[38]?.getD undef = x38 at *
        generalize a1.tmps[39]?.getD undef = x39 at *
        generalize a1.tmps[40]?.getD undef = x40 at *
        generalize a1.tmps[41]?.getD undef = x41 at *
        generalize a1.tmps[42]?.getD undef = x42 at *
        generalize a1.tmps[43]?.getD undef = x43 at *
        go_wp2_with fail
        refine ret_row (p := 2) (ty := 135) (g := (w.heap.size + 1)) rfl Try.underlying135 rfl (by kernel_rfl) rfl hXz.row rfl ?_
        rw [hXz.eq]
        exact ⟨rfl, hLz.out⟩
end Go.Proofs.Ytodcjeaannfbnaa
namespace Go.Proofs.Ytodcjeaannfbnaa
/-- A prime number. -/
def Pr (p : Nat) : Prop := 1 < p ∧ ∀ d, d ∣ p → d = 1 ∨ d = p
theorem Pr.cop {p n : Nat} (h : Pr p) (hn : ¬ p ∣ n) : Nat.Coprime p n := by
  rcases h.2 _ (Nat.gcd_dvd_left p n) with h1 | h1
  · exact h1
  · exact absurd (h1 ▸ Nat.gcd_dvd_right p n) hn
theorem Pr.dvd {p m n : Nat} (h : Pr p) (hd : p ∣ m * n) : p ∣ m ∨ p ∣ n := by
  by_cases hm : p ∣ m
  · exact .inl hm
  · exact .inr ((h.cop hm).dvd_of_dvd_mul_left hd)
/-! Binomials. -/
def ch : Nat → Nat → Nat
  | _, 0 => 1
  | 0, _ + 1 => 0
  | n + 1, k + 1 => ch n k + ch n (k + 1)
theorem ch_zero (n : Nat) : ch n 0 = 1 := by cases n <;> rfl
theorem ch_over : ∀ n k, n < k → ch n k = 0
  | 0, k + 1, _ => rfl
  | n + 1, k + 1, h => by rw [ch, ch_over n k (by omega), ch_over n (k + 1) (by omega)]
theorem ch_self : ∀ n, ch n n = 1
  | 0 => rfl
  | n + 1 => by rw [ch, ch_self n, ch_over n (n + 1) (by omega)]
theorem ch_mul : ∀ n k, (k + 1) * ch (n + 1) (k + 1) = (n + 1) * ch n k
  | 0, 0 => rfl
  | 0, k + 1 => by simp [ch]
  | n + 1, 0 => by
    have h := ch_mul n 0
    have e : ch (n + 1 + 1) (0 + 1) = ch (n + 1) 0 + ch (n + 1) (0 + 1) := rfl
    rw [e, ch_zero]
    rw [ch_zero] at h
    omega
  | n + 1, j + 1 => by
    have h1 := ch_mul n j
    have h2 := ch_mul n (j + 1)
    have e1 : ch (n + 1) (j + 1) = ch n j + ch n (j + 1) := rfl
    have e2 : ch (n + 1 + 1) (j + 1 + 1) = ch (n + 1) (j + 1) + ch (n + 1) (j + 1 + 1) := rfl
    rw [e2]
    generalize ch (n + 1) (j + 1 + 1) = x at *
    generalize ch (n + 1) (j + 1) = y at *
    generalize ch n j = z at *
    generalize ch n (j + 1) = t at *
    grind
def bs (n a : Nat) : Nat → Nat
  | 0 => 0
  | k + 1 => bs n a k + ch n k * a ^ k
theorem bs_succ (n a : Nat) : ∀ k, bs (n + 1) a (k + 1) = a * bs n a k + bs n a (k + 1)
  | 0 => by simp [bs, ch_zero]
  | k + 1 => by
    have ih := bs_succ n a k
    have e1 : bs (n + 1) a (k + 1 + 1) = bs (n + 1) a (k + 1) + ch (n + 1) (k + 1) * a ^ (k + 1) := rfl
    have e2 : bs n a (k + 1 + 1) = bs n a (k + 1) + ch n (k + 1) * a ^ (k + 1) := rfl
    have e3 : bs n a (k + 1) = bs n a k + ch n k * a ^ k := rfl
    have e4 : ch (n + 1) (k + 1) = ch n k + ch n (k + 1) := rfl
    rw [e1, ih, e2, e4, Nat.pow_succ]
    generalize ch n k = x at *
    generalize ch n (k + 1) = y at *
    generalize a ^ k = z at *
    generalize bs n a (k + 1) = s at *
    generalize bs n a k = t at *
    grind
theorem binom (a : Nat) : ∀ n, (a + 1) ^ n = bs n a (n + 1)
  | 0 => by simp [bs, ch]
  | n + 1 => by
    rw [Nat.pow_succ, binom a n, bs_succ]
    have e : bs n a (n + 1 + 1) = bs n a (n + 1) + ch n (n + 1) * a ^ (n + 1) := rfl
    rw [e, ch_over n (n + 1) (by omega), Nat.zero_mul, Nat.mul_add, Nat.mul_one, Nat.mul_comm]
    rfl
theorem ch_dvd {p k : Nat} (h : Pr p) (h0 : 0 < k) (hk : k < p) : p ∣ ch p k := by
  obtain ⟨n, rfl⟩ : ∃ n, p = n + 1 := ⟨p - 1, by omega⟩
  obtain ⟨j, rfl⟩ : ∃ j, k = j + 1 := ⟨k - 1, by omega⟩
  have h1 := ch_mul n j
  have h2 : n + 1 ∣ (j + 1) * ch (n + 1) (j + 1) := ⟨_, h1⟩
  rcases h.dvd h2 with h3 | h3
  · exact absurd (Nat.le_of_dvd (by omega) h3) (by omega)
  · exact h3
theorem bs_mod {p : Nat} (h : Pr p) (a : Nat) : ∀ k, k < p → ∃ m, bs p a (k + 1) = 1 + p * m
  | 0, _ => ⟨0, by simp [bs, ch_zero]⟩
  | k + 1, hk => by
    obtain ⟨m, hm⟩ := bs_mod h a k (by omega)
    obtain ⟨c, hc⟩ := ch_dvd h (k := k + 1) (by omega) hk
    refine ⟨m + c * a ^ (k + 1), ?_⟩
    have e : bs p a (k + 1 + 1) = bs p a (k + 1) + ch p (k + 1) * a ^ (k + 1) := rfl
    rw [e, hm, hc, Nat.mul_add, Nat.mul_assoc, Nat.add_assoc]
/-- Fermat's law. -/
theorem fermat {p : Nat} (h : Pr p) : ∀ a, a ^ p % p = a % p
  | 0 => by rw [Nat.zero_pow (by have := h.1; omega)]
  | a + 1 => by
    have hp := h.1
    obtain ⟨m, hm⟩ := bs_mod h a (p - 1) (by omega)
    have e : bs p a (p + 1) = bs p a p + ch p p * a ^ p := rfl
    rw [show p - 1 + 1 = p by omega] at hm
    rw [binom, e, hm, ch_self, Nat.one_mul, Nat.add_right_comm, Nat.add_mul_mod_self_left, Nat.add_mod, fermat h a, ← Nat.add_mod, Nat.add_comm]
theorem fermat1 {p a : Nat} (h : Pr p) (ha : ¬ p ∣ a) : a ^ (p - 1) % p = 1 := by
  have hp := h.1
  have h1 := fermat h a
  have hpos : 0 < a := by
    rcases Nat.eq_zero_or_pos a with h0 | h0
    · exact absurd (h0 ▸ Nat.dvd_zero p) ha
    · exact h0
  have h2 : a ^ p = a * a ^ (p - 1) := by
    conv => lhs; rw [show p = p - 1 + 1 by omega, Nat.pow_succ]
    exact Nat.mul_comm _ _
  have h3 : 0 < a ^ (p - 1) := Nat.pow_pos hpos
  have h4 : p ∣ a * (a ^ (p - 1) - 1) := by
    rw [Nat.mul_sub, Nat.mul_one, ← h2]
    exact Nat.dvd_of_mod_eq_zero (Nat.sub_mod_eq_zero_of_mod_eq h1)
  have h5 : p ∣ a ^ (p - 1) - 1 := (h.cop ha).dvd_of_dvd_mul_left h4
  obtain ⟨k, hk⟩ := h5
  rw [show a ^ (p - 1) = 1 + p * k by omega, Nat.add_mul_mod_self_left, Nat.mod_eq_of_lt hp]
/-! Pocklington's law. -/
theorem pow_gcd (p c m n : Nat) : c ^ m % p = 1 % p → c ^ n % p = 1 % p → c ^ Nat.gcd m n % p = 1 % p := by
  induction m, n using Nat.gcd.induction with
  | H0 n => intro _ h; rwa [Nat.gcd_zero_left]
  | H1 m n hm ih =>
    intro h1 h2
    rw [Nat.gcd_rec]
    refine ih ?_ h1
    have h3 : c ^ (m * (n / m)) % p = 1 % p := by rw [Nat.pow_mul, Nat.pow_mod, h1, ← Nat.pow_mod, Nat.one_pow]
    have h4 : c ^ n = c ^ (m * (n / m)) * c ^ (n % m) := by rw [← Nat.pow_add, Nat.div_add_mod]
    rw [h4, Nat.mul_mod, h3, ← Nat.mul_mod, Nat.one_mul] at h2
    exact h2
theorem pock1 {N s m a p : Nat} (hs : Pr s) (hN : N - 1 = s * m) (hN1 : 1 < N) (h1 : a ^ (N - 1) % N = 1) (h2 : Nat.gcd (a ^ m % N + N - 1) N = 1) (hp : Pr p) (hd : p ∣ N) : s ∣ p - 1 := by
  have hp1 := hp.1
  refine Classical.byContradiction fun hn => ?_
  have hg := hs.cop hn
  have e1 : (a ^ m) ^ s % p = 1 % p := by
    rw [← Nat.pow_mul, Nat.mul_comm, ← hN, ← Nat.mod_mod_of_dvd _ hd, h1]
  have hc : ¬ p ∣ a ^ m := fun hc => by
    have h3 : p ∣ (a ^ m) ^ s := Nat.dvd_trans hc ⟨(a ^ m) ^ (s - 1), by rw [Nat.mul_comm, ← Nat.pow_succ]; congr 1; have := hs.1; omega⟩
    rw [Nat.mod_eq_zero_of_dvd h3, Nat.mod_eq_of_lt hp1] at e1
    omega
  have e2 : (a ^ m) ^ (p - 1) % p = 1 % p := by rw [fermat1 hp hc, Nat.mod_eq_of_lt hp1]
  have e3 := pow_gcd p (a ^ m) s (p - 1) e1 e2
  rw [hg, Nat.pow_one] at e3
  have h3 : p ∣ a ^ m % N + N - 1 := by
    obtain ⟨k, hk⟩ := hd
    have h4 : (a ^ m % N) % p = 1 % p := by rw [Nat.mod_mod_of_dvd _ ⟨k, hk⟩, e3]
    rw [Nat.mod_eq_of_lt hp1] at h4
    refine Nat.dvd_of_mod_eq_zero ?_
    have h5 := Nat.mod_add_div (a ^ m % N) p
    rw [h4] at h5
    rw [show a ^ m % N + N - 1 = p * (a ^ m % N / p) + p * k by omega, ← Nat.mul_add, Nat.mul_mod_right]
  have h4 := Nat.dvd_gcd h3 hd
  rw [h2] at h4
  have := Nat.le_of_dvd (by omega) h4
  omega
theorem exists_pr : ∀ n, 1 < n → ∃ p, Pr p ∧ p ∣ n := fun n => by
  induction n using Nat.strongRecOn with
  | ind n ih =>
    intro hn
    by_cases h : ∃ d, d ∣ n ∧ d ≠ 1 ∧ d ≠ n
    · obtain ⟨d, hd, h1, h2⟩ := h
      have hle := Nat.le_of_dvd (by omega) hd
      have h0 : d ≠ 0 := fun h0 => by subst h0; have := Nat.eq_zero_of_zero_dvd hd; omega
      obtain ⟨p, hp, hpd⟩ := ih d (by omega) (by omega)
      exact ⟨p, hp, Nat.dvd_trans hpd hd⟩
    · refine ⟨n, ⟨hn, fun d hd => ?_⟩, Nat.dvd_refl n⟩
      refine Classical.byContradiction fun hc => h ⟨d, hd, fun h => hc (.inl h), fun h => hc (.inr h)⟩
theorem pr_of {N F : Nat} (hN : 1 < N) (hF : N < (F + 1) * (F + 1)) (h : ∀ p, Pr p → p ∣ N → F < p) : Pr N := by
  refine ⟨hN, fun d hd => ?_⟩
  refine Classical.byContradiction fun hc => ?_
  have hd1 : d ≠ 1 := fun h => hc (.inl h)
  have hdN : d ≠ N := fun h => hc (.inr h)
  obtain ⟨e, he⟩ := hd
  have hd0 : d ≠ 0 := fun h0 => by subst h0; rw [Nat.zero_mul] at he; omega
  have he1 : e ≠ 1 := fun h1 => by subst h1; rw [Nat.mul_one] at he; exact hdN he.symm
  have he0 : e ≠ 0 := fun h0 => by subst h0; rw [Nat.mul_zero] at he; omega
  obtain ⟨p, hp, hpd⟩ := exists_pr d (by omega)
  obtain ⟨q, hq, hqe⟩ := exists_pr e (by omega)
  have l1 := h p hp (he ▸ Nat.dvd_trans hpd (Nat.dvd_mul_right d e))
  have l2 := h q hq (he ▸ Nat.dvd_trans hqe (Nat.dvd_mul_left e d))
  have l3 := Nat.le_of_dvd (by omega) hpd
  have l4 := Nat.le_of_dvd (by omega) hqe
  have l5 : (F + 1) * (F + 1) ≤ d * e := Nat.mul_le_mul (by omega) (by omega)
  omega
theorem pr_small {N k : Nat} (hN : 1 < N) (hk : N < (k + 1) * (k + 1)) (h : (List.range (k + 1)).all (fun d => decide (d ≤ 1) || N % d != 0) = true) : Pr N := by
  refine pr_of hN hk fun p hp hd => ?_
  refine Classical.byContradiction fun hc => ?_
  have h1 := List.all_eq_true.1 h p (List.mem_range.2 (by omega))
  have hp1 := hp.1
  rw [decide_eq_false (by omega), Bool.false_or, bne_iff_ne] at h1
  exact h1 (Nat.mod_eq_zero_of_dvd hd)
/-! Powers, by squaring. -/
def pwm (N a : Nat) : Nat → Nat → Nat
  | 0, _ => 1
  | f + 1, n => if n % 2 = 0 then (pwm N a f (n / 2)) ^ 2 % N else ((pwm N a f (n / 2)) ^ 2 % N) * a % N
theorem pwm_is (N a : Nat) : ∀ f n, n < 2 ^ f → pwm N a f n % N = a ^ n % N
  | 0, n, h => by
    have : n = 0 := by rw [Nat.pow_zero] at h; omega
    subst this; rfl
  | f + 1, n, h => by
    have ih := pwm_is N a f (n / 2) (by rw [Nat.pow_succ] at h; omega)
    unfold pwm
    split
    · rename_i h0
      rw [Nat.mod_mod, Nat.pow_mod, ih, ← Nat.pow_mod, ← Nat.pow_mul, show n / 2 * 2 = n by omega]
    · rename_i h0
      rw [Nat.mod_mod, Nat.mod_mul_mod, Nat.mul_mod, Nat.pow_mod, ih, ← Nat.pow_mod, ← Nat.mul_mod, ← Nat.pow_mul, ← Nat.pow_succ, show (n / 2 * 2).succ = n by omega]
theorem pock_of {N s m p : Nat} (a : Nat) (hs : Pr s) (hN : (N - 1 == s * m && decide (1 < N) && decide (N < 2 ^ 256) && pwm N a 256 (N - 1) % N == 1 && Nat.gcd (pwm N a 256 m % N + N - 1) N == 1 && decide (m < 2 ^ 256)) = true) (hp : Pr p) (hd : p ∣ N) : s ∣ p - 1 := by
  simp only [Bool.and_eq_true, beq_iff_eq, decide_eq_true_eq] at hN
  obtain ⟨⟨⟨⟨⟨h1, h2⟩, h3⟩, h4⟩, h5⟩, h6⟩ := hN
  rw [pwm_is N a 256 (N - 1) (by omega)] at h4
  rw [pwm_is N a 256 m h6] at h5
  exact pock1 hs h1 h2 h4 h5 hp hd
theorem pr_one {N s : Nat} (hN : 1 < N) (hF : N < (s + 1) * (s + 1)) (h : ∀ p, Pr p → p ∣ N → s ∣ p - 1) : Pr N := pr_of hN hF fun p hp hd => by
  have := hp.1
  have := Nat.le_of_dvd (by omega) (h p hp hd)
  omega
theorem pr_two {N s t : Nat} (hN : 1 < N) (hc : Nat.gcd s t = 1) (hF : N < (s * t + 1) * (s * t + 1)) (h1 : ∀ p, Pr p → p ∣ N → s ∣ p - 1) (h2 : ∀ p, Pr p → p ∣ N → t ∣ p - 1) : Pr N := pr_of hN hF fun p hp hd => by
  have := hp.1
  have := Nat.le_of_dvd (by omega) (Nat.Coprime.mul_dvd_of_dvd_of_dvd hc (h1 p hp hd) (h2 p hp hd))
  omega
theorem pr_991 : Pr 991 := pr_small (k := 31) (by decide) (by decide) (by decide +kernel)
theorem pr_103 : Pr 103 := pr_small (k := 10) (by decide) (by decide) (by decide +kernel)
theorem pr_8574133 : Pr 8574133 := pr_two (s := 991) (t := 103) (by decide +kernel) (by decide +kernel) (by decide +kernel) (fun _ hp hd => pock_of (s := 991) (m := 8652) 2 pr_991 (by decide +kernel) hp hd) (fun _ hp hd => pock_of (s := 103) (m := 83244) 2 pr_103 (by decide +kernel) hp hd)
theorem pr_127 : Pr 127 := pr_small (k := 11) (by decide) (by decide) (by decide +kernel)
theorem pr_1919519569386763 : Pr 1919519569386763 := pr_two (s := 8574133) (t := 127) (by decide +kernel) (by decide +kernel) (by decide +kernel) (fun _ hp hd => pock_of (s := 8574133) (m := 223873314) 2 pr_8574133 (by decide +kernel) hp hd) (fun _ hp hd => pock_of (s := 127) (m := 15114327318006) 2 pr_127 (by decide +kernel) hp hd)
theorem pr_569003 : Pr 569003 := pr_small (k := 754) (by decide) (by decide) (by decide +kernel)
theorem pr_2773320623 : Pr 2773320623 := pr_one (s := 569003) (by decide +kernel) (by decide +kernel) (fun _ hp hd => pock_of (s := 569003) (m := 4874) 2 pr_569003 (by decide +kernel) hp hd)
theorem pr_72106336199 : Pr 72106336199 := pr_one (s := 2773320623) (by decide +kernel) (by decide +kernel) (fun _ hp hd => pock_of (s := 2773320623) (m := 26) 2 pr_2773320623 (by decide +kernel) hp hd)
theorem prb_543864801 : Pr 75445702479781427272750846543864801 := pr_two (s := 1919519569386763) (t := 72106336199) (by decide +kernel) (by decide +kernel) (by decide +kernel) (fun _ hp hd => pock_of (s := 1919519569386763) (m := 39304471641247389600) 2 pr_1919519569386763 (by decide +kernel) hp hd) (fun _ hp hd => pock_of (s := 72106336199) (m := 1046311689884858398375200) 2 pr_72106336199 (by decide +kernel) hp hd)
theorem pr_430751 : Pr 430751 := pr_small (k := 656) (by decide) (by decide) (by decide +kernel)
theorem pr_4153 : Pr 4153 := pr_small (k := 64) (by decide) (by decide) (by decide +kernel)
theorem pr_31757755568855353 : Pr 31757755568855353 := pr_two (s := 430751) (t := 4153) (by decide +kernel) (by decide +kernel) (by decide +kernel) (fun _ hp hd => pock_of (s := 430751) (m := 73726481352) 2 pr_430751 (by decide +kernel) hp hd) (fun _ hp hd => pock_of (s := 4153) (m := 7646943310584) 2 pr_4153 (by decide +kernel) hp hd)
theorem prb_754340907 : Pr 74058212732561358302231226437062788676166966415465897661863160754340907 := pr_two (s := 75445702479781427272750846543864801) (t := 31757755568855353) (by decide +kernel) (by decide +kernel) (by decide +kernel) (fun _ hp hd => pock_of (s := 75445702479781427272750846543864801) (m := 981609426360740691344999861639072106) 2 prb_543864801 (by decide +kernel) hp hd) (fun _ hp hd => pock_of (s := 31757755568855353) (m := 2331972502653487852620185443007392165117953542933313402) 2 pr_31757755568855353 (by decide +kernel) hp hd)
theorem prb_564819949 : Pr 57896044618658097711785492504343953926634992332820282019728792003956564819949 := pr_one (s := 74058212732561358302231226437062788676166966415465897661863160754340907) (by decide +kernel) (by decide +kernel) (fun _ hp hd => pock_of (s := 74058212732561358302231226437062788676166966415465897661863160754340907) (m := 781764) 2 prb_754340907 (by decide +kernel) hp hd)
theorem fP_pr : Pr fP := (show fP = 57896044618658097711785492504343953926634992332820282019728792003956564819949 by decide +kernel) ▸ prb_564819949
/-- The order of the group. -/
def fL : Nat := 2 ^ 252 + 27742317777372353535851937790883648493
theorem pr_2551 : Pr 2551 := pr_small (k := 50) (by decide) (by decide) (by decide +kernel)
theorem pr_1224481 : Pr 1224481 := pr_one (s := 2551) (by decide +kernel) (by decide +kernel) (fun _ hp hd => pock_of (s := 2551) (m := 480) 2 pr_2551 (by decide +kernel) hp hd)
theorem pr_531581 : Pr 531581 := pr_small (k := 729) (by decide) (by decide) (by decide +kernel)
theorem pr_1257559732178653 : Pr 1257559732178653 := pr_two (s := 1224481) (t := 531581) (by decide +kernel) (by decide +kernel) (by decide +kernel) (fun _ hp hd => pock_of (s := 1224481) (m := 1027014492) 2 pr_1224481 (by decide +kernel) hp hd) (fun _ hp hd => pock_of (s := 531581) (m := 2365697292) 2 pr_531581 (by decide +kernel) hp hd)
theorem pr_4434155615661930479 : Pr 4434155615661930479 := pr_one (s := 1257559732178653) (by decide +kernel) (by decide +kernel) (fun _ hp hd => pock_of (s := 1257559732178653) (m := 3526) 2 pr_1257559732178653 (by decide +kernel) hp hd)
theorem prb_258510691 : Pr 172054593956031949258510691 := pr_one (s := 4434155615661930479) (by decide +kernel) (by decide +kernel) (fun _ hp hd => pock_of (s := 4434155615661930479) (m := 38802110) 2 pr_4434155615661930479 (by decide +kernel) hp hd)
theorem prb_130476339 : Pr 19757330305831588566944191468367130476339 := pr_one (s := 172054593956031949258510691) (by decide +kernel) (by decide +kernel) (fun _ hp hd => pock_of (s := 172054593956031949258510691) (m := 114831751082918) 2 prb_258510691 (by decide +kernel) hp hd)
theorem prb_826668747 : Pr 276602624281642239937218680557139826668747 := pr_one (s := 19757330305831588566944191468367130476339) (by decide +kernel) (by decide +kernel) (fun _ hp hd => pock_of (s := 19757330305831588566944191468367130476339) (m := 14) 2 prb_130476339 (by decide +kernel) hp hd)
theorem prb_454250989 : Pr 7237005577332262213973186563042994240857116359379907606001950938285454250989 := pr_one (s := 276602624281642239937218680557139826668747) (by decide +kernel) (by decide +kernel) (fun _ hp hd => pock_of (s := 276602624281642239937218680557139826668747) (m := 26163907866482859529727157400808004) 2 prb_826668747 (by decide +kernel) hp hd)
theorem fL_pr : Pr fL := (show fL = 7237005577332262213973186563042994240857116359379907606001950938285454250989 by decide +kernel) ▸ prb_454250989
theorem pow_P {u : Nat} (h : u % fP ≠ 0) : u ^ (fP - 1) % fP = 1 := fermat1 fP_pr fun hd => h (Nat.mod_eq_zero_of_dvd hd)
end Go.Proofs.Ytodcjeaannfbnaa
namespace Go.Proofs.Ytodcjeaannfbnaa
/-- The document's double, and both. -/
def rdb (x z : Nat) : Nat × Nat :=
  let xx := x * x % fP
  let zz := z * z % fP
  let xz := x * z % fP
  let d := lessM xx zz
  let m := 486662 * xz % fP
  let s0 := (xx + m) % fP
  let sum := (s0 + zz) % fP
  let f := 4 * xz % fP
  (d * d % fP, f * sum % fP)
def rbo (q0 q1 r0 r1 u : Nat) : Nat × Nat :=
  let xv := q0 * r0 % fP
  let zw := q1 * r1 % fP
  let xw := q0 * r1 % fP
  let zv := q1 * r0 % fP
  let s := lessM xv zw
  let t := lessM xw zv
  let tt := t * t % fP
  (s * s % fP, u * tt % fP)
/-- One step of the document's ladder. -/
def rstep (c u : Nat) (s : Nat × Nat × Nat × Nat) : Nat × Nat × Nat × Nat :=
  if c = 0 then ((rdb s.1 s.2.1).1, (rdb s.1 s.2.1).2, (rbo s.1 s.2.1 s.2.2.1 s.2.2.2 u).1, (rbo s.1 s.2.1 s.2.2.1 s.2.2.2 u).2)
  else ((rbo s.1 s.2.1 s.2.2.1 s.2.2.2 u).1, (rbo s.1 s.2.1 s.2.2.1 s.2.2.2 u).2, (rdb s.2.2.1 s.2.2.2).1, (rdb s.2.2.1 s.2.2.2).2)
/-- The rungs of n, as deep as f. -/
def rngF (u : Nat) : Nat → Nat → Nat × Nat × Nat × Nat
  | 0, _ => (1, 0, u, 1)
  | f + 1, n => if n = 0 then (1, 0, u, 1) else rstep (n % 2) u (rngF u f (n / 2))
def rng (u n : Nat) : Nat × Nat × Nat × Nat := rngF u n n
theorem rngF_nil (u f : Nat) : rngF u f 0 = (1, 0, u, 1) := by
  cases f with
  | zero => rw [rngF]
  | succ f => rw [rngF, if_pos rfl]
theorem rngF_more (u f : Nat) : ∀ g n, n ≤ f → n ≤ g → rngF u f n = rngF u g n := by
  induction f with
  | zero =>
    intro g n h1 _
    obtain rfl : n = 0 := by omega
    rw [rngF_nil, rngF_nil]
  | succ f ih =>
    intro g n h1 h2
    by_cases h : n = 0
    · rw [h, rngF_nil, rngF_nil]
    · obtain ⟨g, rfl⟩ : ∃ m, g = m + 1 := ⟨g - 1, by omega⟩
      rw [rngF, rngF, if_neg h, if_neg h, ih g (n / 2) (by omega) (by omega)]
theorem rng_zero (u : Nat) : rng u 0 = (1, 0, u, 1) := rngF_nil u 0
theorem rng_step (u n : Nat) (h : n ≠ 0) : rng u n = rstep (n % 2) u (rng u (n / 2)) := by
  unfold rng
  obtain ⟨m, rfl⟩ : ∃ m, n = m + 1 := ⟨n - 1, by omega⟩
  rw [rngF, if_neg h, rngF_more u m ((m + 1) / 2) ((m + 1) / 2) (by omega) (Nat.le_refl _)]
section
variable {x z px pz qx qz u : Nat} {X Z PX PZ QX QZ U : Int}
theorem tw_cg (hx : Cg x X) (hz : Cg z Z) : Cg (twP x z).1 ((X * X - Z * Z) * (X * X - Z * Z)) ∧ Cg (twP x z).2 (4 * (X * Z) * (X * X + 486662 * (X * Z) + Z * Z)) := by
  have s0 := Cg.addM hx hz
  have s := Cg.mulM s0 s0
  have t0 := Cg.difM hx hz
  have t := Cg.mulM t0 t0
  have e := Cg.difM s t
  have m := Cg.mulM (m := 121665) (Cg.refl 121665) e
  have a := Cg.addM s m
  exact ⟨(Cg.mulM s t).trans ⟨0, by grind⟩, (Cg.mulM e a).trans ⟨0, by grind⟩⟩
theorem jo_cg (h1 : Cg px PX) (h2 : Cg pz PZ) (h3 : Cg qx QX) (h4 : Cg qz QZ) (h5 : Cg u U) : Cg (joP px pz qx qz u).1 (4 * ((PX * QX - PZ * QZ) * (PX * QX - PZ * QZ))) ∧ Cg (joP px pz qx qz u).2 (4 * (U * ((PX * QZ - PZ * QX) * (PX * QZ - PZ * QX)))) := by
  have a := Cg.mulM (Cg.addM h3 h4) (Cg.difM h1 h2)
  have b := Cg.mulM (Cg.difM h3 h4) (Cg.addM h1 h2)
  have c := Cg.addM a b
  have d := Cg.difM a b
  have e := Cg.mulM d d
  exact ⟨(Cg.mulM c c).trans ⟨0, by grind⟩, (Cg.mulM h5 e).trans ⟨0, by grind⟩⟩
theorem db_cg (hx : Cg x X) (hz : Cg z Z) : Cg (rdb x z).1 ((X * X - Z * Z) * (X * X - Z * Z)) ∧ Cg (rdb x z).2 (4 * (X * Z) * (X * X + 486662 * (X * Z) + Z * Z)) := by
  have xx := Cg.mulM hx hx
  have zz := Cg.mulM hz hz
  have xz := Cg.mulM hx hz
  have d := Cg.lessM xx zz lt_P
  have m := Cg.mulM (m := 486662) (Cg.refl 486662) xz
  have sum := Cg.addM (Cg.addM xx m) zz
  have f := Cg.mulM (m := 4) (Cg.refl 4) xz
  exact ⟨Cg.mulM d d, (Cg.mulM f sum)⟩
theorem bo_cg (h1 : Cg px PX) (h2 : Cg pz PZ) (h3 : Cg qx QX) (h4 : Cg qz QZ) (h5 : Cg u U) : Cg (rbo px pz qx qz u).1 ((PX * QX - PZ * QZ) * (PX * QX - PZ * QZ)) ∧ Cg (rbo px pz qx qz u).2 (U * ((PX * QZ - PZ * QX) * (PX * QZ - PZ * QX))) := by
  have s := Cg.lessM (Cg.mulM h1 h3) (Cg.mulM h2 h4) lt_P
  have t := Cg.lessM (Cg.mulM h1 h4) (Cg.mulM h2 h3) lt_P
  exact ⟨Cg.mulM s s, Cg.mulM h5 (Cg.mulM t t)⟩
end
/-- A factor that divides. -/
def Un (a : Nat) : Prop := a ^ (fP - 1) % fP = 1
theorem Un.mul {a b : Nat} (ha : Un a) (hb : Un b) : Un (a * b) := by
  unfold Un at *
  rw [Nat.mul_pow, Nat.mul_mod, ha, hb]
  exact Nat.mod_eq_of_lt (Nat.lt_trans (by omega) fP_pos)
theorem Un.four : Un 4 := four_pow
/-- As much above and below is the same. -/
theorem over_un {a X X4 Z Z4 : Nat} (ha : Un a) (hX : Cg X4 ((a : Int) * (X : Int))) (hZ : Cg Z4 ((a : Int) * (Z : Int))) : X4 * invP Z4 % fP = X * invP Z % fP := by
  refine Cg.eq ?_ lt_P lt_P
  refine (Cg.mod _).trans (Cg.trans ?_ (Cg.mod _).symm)
  have hi : ∀ n m : Nat, Cg m n → ∀ k : Nat, Cg ((m ^ k : Nat) : Int) ((n ^ k : Nat) : Int) := fun n m h k => by
    induction k with
    | zero => exact Cg.refl _
    | succ k ih => rw [Nat.pow_succ, Nat.pow_succ, Int.natCast_mul, Int.natCast_mul]; exact ih.mul h
  have hZ' : Cg Z4 ((a * Z : Nat) : Int) := by rw [Int.natCast_mul]; exact hZ
  have h1 : Cg (invP Z4) (((a ^ (fP - 2) : Nat) : Int) * (invP Z : Int)) := by
    unfold invP
    refine (Cg.mod _).trans ((hi _ _ hZ' (fP - 2)).trans ?_)
    rw [Nat.mul_pow, Int.natCast_mul]
    exact (Cg.refl _).mul (Cg.mod _).symm
  have h2 : Cg ((a : Int) * ((a ^ (fP - 2) : Nat) : Int)) 1 := by
    have h3 : a * a ^ (fP - 2) = a ^ (fP - 1) := by
      rw [Nat.mul_comm, ← Nat.pow_succ]
      have := fP_pos
      rw [show (fP - 2).succ = fP - 1 by omega]
    rw [← Int.natCast_mul, h3]
    refine (Cg.mod _).symm.trans ?_
    rw [show a ^ (fP - 1) % fP = 1 from ha]
    exact Cg.refl _
  rw [Int.natCast_mul, Int.natCast_mul]
  refine (hX.mul h1).trans ?_
  generalize ((a ^ (fP - 2) : Nat) : Int) = q at *
  have h4 := h2.mul (Cg.refl ((X : Int) * (invP Z : Int)))
  rw [Int.one_mul] at h4
  refine Cg.trans ?_ h4
  exact ⟨0, by grind⟩
/-- The program's state is the document's, but for a factor each. -/
def Rel (s t : Nat × Nat × Nat × Nat) : Prop := ∃ a b : Nat, Un a ∧ Un b ∧ Cg s.1 ((a : Int) * (t.1 : Int)) ∧ Cg s.2.1 ((a : Int) * (t.2.1 : Int)) ∧ Cg s.2.2.1 ((b : Int) * (t.2.2.1 : Int)) ∧ Cg s.2.2.2 ((b : Int) * (t.2.2.2 : Int))
theorem rel_step {c u : Nat} {s t : Nat × Nat × Nat × Nat} (hc : c = 0 ∨ c = 1) (h : Rel s t) : Rel (lstep c u s) (rstep c (u % fP) t) := by
  obtain ⟨x, z, y, v⟩ := s
  obtain ⟨X, Z, Y, V⟩ := t
  obtain ⟨a, b, ha, hb, h1, h2, h3, h4⟩ := h
  dsimp only at h1 h2 h3 h4
  have hu : Cg u ((u % fP : Nat) : Int) := (Cg.mod u).symm
  have ua : Un (a * a * (a * a)) := (ha.mul ha).mul (ha.mul ha)
  have ub : Un (b * b * (b * b)) := (hb.mul hb).mul (hb.mul hb)
  have uab : Un (4 * (a * a * (b * b))) := Un.four.mul ((ha.mul ha).mul (hb.mul hb))
  generalize u % fP = U at *
  have ca : ((a * a * (a * a) : Nat) : Int) = (a : Int) * a * ((a : Int) * a) := by simp only [Int.natCast_mul]
  have cb : ((b * b * (b * b) : Nat) : Int) = (b : Int) * b * ((b : Int) * b) := by simp only [Int.natCast_mul]
  have cab : ((4 * (a * a * (b * b)) : Nat) : Int) = 4 * ((a : Int) * a * ((b : Int) * b)) := by simp only [Int.natCast_mul]; rfl
  rcases hc with rfl | rfl
  · have e1 := tw_cg h1 h2
    have e2 := db_cg (Cg.refl (X : Int)) (Cg.refl (Z : Int))
    have e3 := jo_cg h1 h2 h3 h4 hu
    have e4 := bo_cg (Cg.refl (X : Int)) (Cg.refl (Z : Int)) (Cg.refl (Y : Int)) (Cg.refl (V : Int)) (Cg.refl (U : Int))
    refine ⟨a * a * (a * a), 4 * (a * a * (b * b)), ua, uab, ?_, ?_, ?_, ?_⟩
    · rw [ca]; exact e1.1.trans (Cg.trans ⟨0, by grind⟩ ((Cg.refl _).mul e2.1).symm)
    · rw [ca]; exact e1.2.trans (Cg.trans ⟨0, by grind⟩ ((Cg.refl _).mul e2.2).symm)
    · rw [cab]; exact e3.1.trans (Cg.trans ⟨0, by grind⟩ ((Cg.refl _).mul e4.1).symm)
    · rw [cab]; exact e3.2.trans (Cg.trans ⟨0, by grind⟩ ((Cg.refl _).mul e4.2).symm)
  · have e1 := tw_cg h3 h4
    have e2 := db_cg (Cg.refl (Y : Int)) (Cg.refl (V : Int))
    have e3 := jo_cg h3 h4 h1 h2 hu
    have e4 := bo_cg (Cg.refl (X : Int)) (Cg.refl (Z : Int)) (Cg.refl (Y : Int)) (Cg.refl (V : Int)) (Cg.refl (U : Int))
    refine ⟨4 * (a * a * (b * b)), b * b * (b * b), uab, ub, ?_, ?_, ?_, ?_⟩
    · rw [cab]; exact e3.1.trans (Cg.trans ⟨0, by grind⟩ ((Cg.refl _).mul e4.1).symm)
    · rw [cab]; exact e3.2.trans (Cg.trans ⟨0, by grind⟩ ((Cg.refl _).mul e4.2).symm)
    · rw [cb]; exact e1.1.trans (Cg.trans ⟨0, by grind⟩ ((Cg.refl _).mul e2.1).symm)
    · rw [cb]; exact e1.2.trans (Cg.trans ⟨0, by grind⟩ ((Cg.refl _).mul e2.2).symm)
/-- A leading zero: the start again, but for factors. -/
theorem rel_zero {u : Nat} {s : Nat × Nat × Nat × Nat} (hu0 : Un (u % fP)) (h : Rel s (1, 0, u % fP, 1)) : Rel (lstep 0 u s) (1, 0, u % fP, 1) := by
  obtain ⟨x, z, y, v⟩ := s
  obtain ⟨a, b, ha, hb, h1, h2, h3, h4⟩ := h
  dsimp only at h1 h2 h3 h4
  have hu : Cg u ((u % fP : Nat) : Int) := (Cg.mod u).symm
  have ua : Un (a * a * (a * a)) := (ha.mul ha).mul (ha.mul ha)
  have uab : Un (4 * (a * a * (b * b)) * (u % fP)) := (Un.four.mul ((ha.mul ha).mul (hb.mul hb))).mul hu0
  generalize u % fP = U at *
  have ca : ((a * a * (a * a) : Nat) : Int) = (a : Int) * a * ((a : Int) * a) := by simp only [Int.natCast_mul]
  have cab : ((4 * (a * a * (b * b)) * U : Nat) : Int) = 4 * ((a : Int) * a * ((b : Int) * b)) * U := by simp only [Int.natCast_mul]; rfl
  have e1 := tw_cg h1 h2
  have e3 := jo_cg h1 h2 h3 h4 hu
  refine ⟨a * a * (a * a), 4 * (a * a * (b * b)) * U, ua, uab, ?_, ?_, ?_, ?_⟩
  · rw [ca]; exact e1.1.trans ⟨0, by grind⟩
  · rw [ca]; exact e1.2.trans ⟨0, by grind⟩
  · rw [cab]; exact e3.1.trans ⟨0, by grind⟩
  · rw [cab]; exact e3.2.trans ⟨0, by grind⟩
theorem top_step (k j : Nat) (hj : j < 256) : k / 2 ^ (256 - (j + 1)) = 2 * (k / 2 ^ (256 - j)) + abit k (255 - j) := by
  unfold abit
  rw [show 256 - (j + 1) = 255 - j by omega, show 256 - j = (255 - j) + 1 by omega, Nat.pow_succ, ← Nat.div_div_eq_div_mul]
  omega
theorem rel_all (k u : Nat) (hk : k < 2 ^ 256) (hu0 : Un (u % fP)) : ∀ j, j ≤ 256 → Rel (lst k u j) (rng (u % fP) (k / 2 ^ (256 - j)))
  | 0, _ => by
    rw [Nat.div_eq_of_lt hk, rng_zero]
    have h1 : Un 1 := by unfold Un; rw [Nat.one_pow]; exact Nat.mod_eq_of_lt (Nat.lt_trans (by omega) fP_pos)
    refine ⟨1, 1, h1, h1, ?_, ?_, ?_, ?_⟩
    · exact ⟨0, by show (1 : Int) = _; grind⟩
    · exact ⟨0, by show (0 : Int) = _; grind⟩
    · exact (Cg.mod u).symm.trans ⟨0, by grind⟩
    · exact ⟨0, by show (1 : Int) = _; grind⟩
  | j + 1, hj => by
    have ih := rel_all k u hk hu0 j (by omega)
    have ht := top_step k j (by omega)
    have hc := abit_or k (255 - j)
    rw [lst, ht]
    generalize abit k (255 - j) = c at *
    generalize k / 2 ^ (256 - j) = n at *
    by_cases h0 : 2 * n + c = 0
    · obtain rfl : n = 0 := by omega
      obtain rfl : c = 0 := by omega
      exact rel_zero hu0 ih
    · rw [rng_step _ _ h0, show (2 * n + c) % 2 = c by omega, show (2 * n + c) / 2 = n by omega]
      exact rel_step hc ih
/-- Where u is 0 nothing is below. -/
theorem mul_zero_P {a b : Nat} (h : b % fP = 0) : a * b % fP = 0 := by rw [Nat.mul_mod, h, Nat.mul_zero, Nat.zero_mod]
theorem zero_mul_P {a b : Nat} (h : a % fP = 0) : a * b % fP = 0 := by rw [Nat.mul_comm]; exact mul_zero_P h
theorem inv_zero {z : Nat} (h : z % fP = 0) : invP z = 0 := by
  unfold invP
  have := fP_pos
  rw [Nat.pow_mod, h, Nat.zero_pow (by omega), Nat.zero_mod]
theorem cg_zero {n : Nat} (h : Cg n 0) : n % fP = 0 := by
  have h2 : Cg ((n % fP : Nat) : Int) ((0 : Nat) : Int) := (Cg.mod n).trans h
  exact Cg.eq h2 lt_P (Nat.lt_trans (by omega) fP_pos)
theorem zero_cg {n : Nat} (h : n % fP = 0) : Cg n 0 := (Cg.mod n).symm.trans (by rw [h]; exact Cg.refl 0)
theorem lst_zero (k u : Nat) (hu : u % fP = 0) : ∀ j, (lst k u j).2.1 % fP = 0
  | 0 => Nat.zero_mod _
  | j + 1 => by
    have ih := lst_zero k u hu j
    rw [lst]
    unfold lstep
    split
    · dsimp only
      unfold joP
      exact (Nat.mod_mod _ _).trans (zero_mul_P hu)
    · have h := (tw_cg (Cg.refl ((lst k u j).1 : Int)) (zero_cg ih)).2
      refine cg_zero (h.trans ⟨0, by grind⟩)
theorem rng_zeroz (u : Nat) (hu : u % fP = 0) : ∀ n, (rng u n).2.1 % fP = 0 := fun n => by
  induction n using Nat.strongRecOn with
  | ind n ih =>
    by_cases h : n = 0
    · subst h; exact Nat.zero_mod _
    · rw [rng_step u n h]
      have ih := ih (n / 2) (by omega)
      unfold rstep
      split
      · have h := (db_cg (Cg.refl ((rng u (n / 2)).1 : Int)) (zero_cg ih)).2
        refine cg_zero (h.trans ⟨0, by grind⟩)
      · dsimp only
        unfold rbo
        exact (Nat.mod_mod _ _).trans (zero_mul_P hu)
theorem ladder_same (k u : Nat) (hk : k < 2 ^ 256) : (lst k u 256).1 * invP (lst k u 256).2.1 % fP = (rng (u % fP) k).1 * invP (rng (u % fP) k).2.1 % fP := by
  by_cases h0 : u % fP = 0
  · rw [inv_zero (lst_zero k u h0 256), inv_zero (rng_zeroz (u % fP) (by rw [Nat.mod_mod]; exact h0) k), Nat.mul_zero, Nat.mul_zero]
  · have hu : Un (u % fP) := pow_P (by rw [Nat.mod_mod]; exact h0)
    obtain ⟨a, b, ha, -, h1, h2, -⟩ := rel_all k u hk hu 256 (Nat.le_refl _)
    rw [show k / 2 ^ (256 - 256) = k by rw [Nat.sub_self, Nat.pow_zero, Nat.div_one]] at h1 h2
    exact over_un ha h1 h2
end Go.Proofs.Ytodcjeaannfbnaa
