/- The document's Prime and Power. -/
import Derived.Test.YtodcjeaannfbnaaDoorNum5
import Derived.Test.YtodcjeaannfbnaaDoorAt
import Derived.Test.YtodcjeaannfbnaaDoorPrm
import Derived.Deep.DeepCutAuto
namespace Go.Proofs.YtodcjeaannfbnaaDoor
open Go.ChangeShapes Go.WideShapes Go.ChangeAt Go.RowKit
set_option maxHeartbeats 2000000
set_option maxRecDepth 100000
def twoW : Nat → Nat := fun i => if i = 0 then 6346243789798364141 else 1503914060200516822
theorem twoW_val : wval twoW 2 = 27742317777372353535851937790883648493 := by decide +kernel
theorem fL_sum : 2 ^ 252 + 27742317777372353535851937790883648493 = fL := rfl
theorem two_lit : #[Value.int IntKind.u64 6346243789798364141, Value.int IntKind.u64 1503914060200516822] = arrK .u64 2 twoW := by kernel_rfl
theorem ref_Prime (w : World) : Calls Tryd.prog 18 #[] w (RetN fL w) := by
  have kT := Lib.hid (fun V => ref_TwoTo 252 V (by omega))
  have kD := Lib.hid (fun (V : World) g (h : At V g .u64 2 twoW) => by
    obtain ⟨cs, t, hg, hs⟩ := h.row
    have hcs : cs = arrK .u64 2 twoW := by rw [← h.eq]; simp [rowAt, hg]
    have k := ref_Digits (some ⟨g, 0, none⟩) 2 2 twoW V (by rw [← hcs]; exact Rd.of_blk hg h.lt) (by omega) (by omega) (by omega) (fun i _ => by unfold twoW; split <;> omega)
    rw [twoW_val] at k
    exact k)
  have hsm : (2 : Nat) ^ 252 < 2 ^ 253 := Nat.pow_lt_pow_right (by omega) (by omega)
  have hs2 : 27742317777372353535851937790883648493 < 2 ^ 253 := by decide +kernel
  rw [← fL_sum]
  obtain ⟨P, hP⟩ : ∃ P, (2 : Nat) ^ 252 = P := ⟨_, rfl⟩
  obtain ⟨D, hD⟩ : ∃ P, 27742317777372353535851937790883648493 = P := ⟨_, rfl⟩
  rw [hP] at kT hsm ⊢
  rw [hD] at kD hs2 ⊢
  have kS := Lib.hid (fun V v u (hv : IsN V v P) (hu : IsN V u D) => plusN V (hv.toV (lt_big hsm (by omega))) (hu.toV (lt_big hs2 (by omega))))
  clear hD hP hsm hs2
  go_enter Tryd.func18, Tryd.ntmps18
  go_wp2_with fail
  refine (show Calls _ _ #[Value.int IntKind.i64 252] w _ from kT.out _).mono ?_
  rintro e w2 ⟨v, rfl, hv, hb⟩
  have hV := Lib.hid hv
  have hL := Lib.hid hb
  clear hv hb kT
  dsimp only
  go_wp2_with fail
  rw [two_lit]
  refine (kD.out _ _ (At.new (w := w2) (k := .u64) (m := 2) (f := twoW) 39 rfl)).mono ?_
  rintro e w3 ⟨u, rfl, hu, hb⟩
  have hb2 := (below_alloc w2 (Obj.cells (arrK .u64 2 twoW) 39)).trans (hb.mono (by simp))
  have hV2 := Lib.hid (hV.out.step hb2)
  have hU := Lib.hid hu
  have hL2 := Lib.hid (below_step hb2 hL.out (Nat.le_refl _))
  clear hu hb hb2 hV hL kD
  dsimp only
  go_wp2_with fail
  refine (kS.out _ _ _ hV2.out hU.out).mono ?_
  rintro e w4 ⟨x, rfl, hx, hb⟩
  have hX := Lib.hid hx
  have hL3 := Lib.hid (below_step hb hL2.out (Nat.le_refl _))
  clear hx hb hL2 hU hV2 kS
  dsimp only
  go_wp2_with fail
  go_ret
  exact ⟨x, rfl, hX.out, hL3.out⟩
theorem IsN.one1 (w : World) (t : TypeId) : IsN (w.alloc (.cells #[.int .i64 ((1 : Nat) : Int)] t)) (.slice (some ⟨w.heap.size, 0, none⟩) 1 1) 1 :=
  ⟨some ⟨w.heap.size, 0, none⟩, [1], 1, rfl, ⟨Rd.of_blk (cs := #[.int .i64 ((1 : Nat) : Int)]) (push_new _ _) (by simp), Sm.one (by omega), by simp, by omega⟩, ⟨⟨Sm.one (by omega), val_one 1⟩, by simp⟩⟩
theorem pw_bit (a n m s x y : Nat) (hx : x = a ^ (n % 2 ^ s) % m) (hy : y = a ^ 2 ^ s % m) : (n / 2 ^ s % 2 = 0 → x = a ^ (n % 2 ^ (s + 1)) % m) ∧ (n / 2 ^ s % 2 = 1 → x * y % m = a ^ (n % 2 ^ (s + 1)) % m) ∧ y * y % m = a ^ 2 ^ (s + 1) % m := by
  have h : n % 2 ^ (s + 1) = n % 2 ^ s + n / 2 ^ s % 2 * 2 ^ s := by rw [Nat.pow_succ, Nat.mod_mul, Nat.mul_comm (2 ^ s) (n / 2 ^ s % 2)]
  refine ⟨fun hb => ?_, fun hb => ?_, ?_⟩
  · rw [h, hb, Nat.zero_mul, Nat.add_zero]; exact hx
  · rw [h, hb, Nat.one_mul, Nat.pow_add, hx, hy, ← Nat.mul_mod]
  · rw [hy, ← Nat.mul_mod, Nat.pow_succ, Nat.mul_two, Nat.pow_add]
theorem powerN {u v x : Value} {a n m k j : Nat} (w : World) (hu : IsN w u a) (ha : a < 2 ^ k) (hk : k ≤ 160000) (hv : IsN w v n) (hn : n < big) (hx : IsV w x m) (hm1 : 0 < m) (hmj : m < 2 ^ j) (hj : j ≤ 1000) :
    Calls Tryd.prog 35 #[u, v, x] w (RetN (a ^ n % m) w) := by
  obtain ⟨A, l, c, rfl, hD, hG⟩ := hv
  have hll : l.length ≤ 10000 := lt_len hG hn
  have hval : val l = n := hG.val
  have hnl : n < 2 ^ (16 * l.length) := by
    have h := val_lt hG.sm
    rw [hval, show (65536 : Nat) = 2 ^ 16 from rfl, ← Nat.pow_mul] at h
    exact h
  obtain ⟨uA, um, uc, rfl, -, -, -⟩ := hu.form
  obtain ⟨xA, xl, xc, rfl, hxD, hxv, hxl⟩ := hx
  have hmb : 65536 * m < big := mul_big (m := 17) (n := j) (by omega) hmj (by omega)
  have hXV := Lib.hid (fun V (h : Below w.heap.size w V) => show IsV V (.slice xA xl.length xc) m from ⟨xA, xl, xc, rfl, hxD.below h (Nat.le_refl _), hxv, hxl⟩)
  have kR1 := Lib.hid (fun V v (hv : IsN V v 1) (h : Below w.heap.size w V) => restN (k := 1) V hv (by omega) (by omega) (hXV.out V h) hm1 hmb)
  have kRa := Lib.hid (fun V v (hv : IsN V v a) (h : Below w.heap.size w V) => restN V hv ha hk (hXV.out V h) hm1 hmb)
  have kRm := Lib.hid (fun V v p q (hp : p < m) (hq : q < m) (hv : IsN V v (p * q)) (h : Below w.heap.size w V) => restN (k := j + j) V hv (by rw [Nat.pow_add]; exact Nat.mul_lt_mul'' (by omega) (by omega)) (by omega) (hXV.out V h) hm1 hmb)
  have kT := Lib.hid (fun V v1 v2 p q (hp : p < m) (hq : q < m) (h1 : IsN V v1 p) (h2 : IsN V v2 q) => timesN V (h1.toV (lt_big (k := j) (by omega) (by omega))) (h2.toV (lt_big (k := j) (by omega) (by omega))))
  obtain ⟨M, hM⟩ : ∃ m, 16 * l.length = m := ⟨_, rfl⟩
  have hm2 : M ≤ 160000 := by omega
  have kB := Lib.hid (fun V (h : Below w.heap.size w V) => ref_Bits A l c M V (hD.below h (Nat.le_refl _)) (by omega))
  rw [hval] at kB
  have hmi : (16 : Int) * (l.length : Int) = (M : Int) := by omega
  have hln : (l.length : Int) ≤ 10000 := by omega
  have hnm : n % 2 ^ M = n := by rw [← hM]; exact Nat.mod_eq_of_lt hnl
  have hend := Lib.hid (show a ^ (n % 2 ^ M) % m = a ^ n % m by rw [hnm])
  have hrd := Lib.hid (fun s x y hx hy => pw_bit a n m s x y hx hy)
  have hlm := Lib.hid (fun t => Nat.mod_lt t hm1)
  have hs0 := Lib.hid (show 1 % m = a ^ (n % 2 ^ 0) % m by rw [Nat.pow_zero, Nat.mod_one, Nat.pow_zero])
  have hs1 := Lib.hid (show a % m = a ^ 2 ^ 0 % m by rw [Nat.pow_zero, Nat.pow_one])
  have hab := Lib.hid (fun i => show n / 2 ^ i % 2 = 0 ∨ n / 2 ^ i % 2 = 1 by omega)
  have hUa := Lib.hid hu
  obtain ⟨bf, hbf⟩ : ∃ b, (fun i => n / 2 ^ i % 2) = b := ⟨_, rfl⟩
  have hbi : ∀ i, n / 2 ^ i % 2 = bf i := fun i => by rw [← hbf]
  unfold BitsR at kB
  rw [hbf] at kB
  simp only [hbi] at hrd hab
  obtain ⟨R, hR⟩ : ∃ R, a ^ n % m = R := ⟨_, rfl⟩
  rw [hR] at hend ⊢
  generalize l.length = ll at *
  generalize xl.length = xll at *
  clear hR hbf hbi hnm hxD hxv hxl hG hD hval hnl hM hll hn hu ha hk hmj hj hmb hXV
  have hw1 : Below w.heap.size w (w.alloc (.cells #[.int .i64 1] 3)) := below_alloc _ _
  go_enter Tryd.func35, Tryd.ntmps35
  go_wp2_with fail
  refine (kR1.out _ _ (IsN.one1 w 3) hw1).mono ?_
  rintro e w2 ⟨o1, rfl, ho1, hb⟩
  have hO := Lib.hid ho1
  have hL := Lib.hid (below_step hb hw1 (Nat.le_refl _))
  clear ho1 hb hw1 kR1
  dsimp only
  go_wp2_with fail
  refine (kRa.out _ _ (hUa.out.step hL.out) hL.out).mono ?_
  rintro e w3 ⟨a1, rfl, ha1, hb⟩
  have hA := Lib.hid ha1
  replace hO := Lib.hid (hO.out.step hb)
  replace hL := Lib.hid (below_step hb hL.out (Nat.le_refl _))
  clear ha1 hb kRa hUa
  dsimp only
  have ws : IntKind.i64.wrap ((M : Nat) : Int) = ((M : Nat) : Int) := by rw [IntKind.wrap_i64]; omega
  have kB2 := Lib.hid (kB.out _ hL.out)
  clear kB
  go_wp2_with fail
  refine (show Calls _ _ #[_, Value.int IntKind.i64 (M : Int)] w3 _ from kB2.out).mono ?_
  rintro e w4 ⟨g, rfl, hgR, hgE, hgs, hb⟩
  have hG := Lib.hid (show At w4 g .i64 M bf from ⟨hgR, hgE⟩)
  replace hO := Lib.hid (hO.out.step hb)
  replace hA := Lib.hid (hA.out.step hb)
  replace hL := Lib.hid (below_step hb hL.out (Nat.le_refl _))
  clear hgR hgE hgs hb kB2 ws
  dsimp only
  go_upto_region 4 with (fail)
  go_loopw [0, 7, 9, 22] (fun va vo vb vi wr => ∃ s p q : Nat, vi = .int .i64 (s : Nat) ∧ s ≤ M ∧ p < m ∧ q < m ∧ p = a ^ (n % 2 ^ s) % m ∧ q = a ^ 2 ^ s % m ∧ IsN wr vo p ∧ IsN wr va q ∧ At wr g .i64 M bf ∧ Below w.heap.size w wr) (fun _ _ _ vi _ => M - (intOf vi).toNat)
  case atStart => exact ⟨0, 1 % m, a % m, rfl, Nat.zero_le _, hlm.out _, hlm.out _, hs0.out, hs1.out, hO.out, hA.out, hG.out, hL.out⟩
  case round =>
    clear hO hA hG hL hs0 hs1
    obtain ⟨s, p, q, rfl, hs, hp, hq, hpe, hqe, hO0, hA0, hG0, hL0⟩ := hrel
    have hO := Lib.hid hO0
    have hA := Lib.hid hA0
    have hG := Lib.hid hG0
    have hL := Lib.hid hL0
    clear hO0 hA0 hG0 hL0
    obtain ⟨oA, om, oc, rfl, -, -, -⟩ := hO.out.form
    obtain ⟨aA, am, ac, rfl, -, -, -⟩ := hA.out.form
    by_cases hsm : s = M
    · subst hsm
      have hfin := Lib.hid (hpe.trans hend.out)
      clear hend hrd hab hpe hqe hp hq hG hA
      have d1 : decide ((s : Int) < (s : Int)) = false := by simp
      go_wp2_with fail
      go_ret
      exact ⟨_, rfl, hfin.out ▸ hO.out, hL.out⟩
    · have hslt : s < M := by omega
      have hr := hrd.out s p q hpe hqe
      have hr0 := Lib.hid hr.1
      have hr1 := Lib.hid hr.2.1
      have hr2 := Lib.hid hr.2.2
      have hab2 := hab.out s
      have c := hG.out.cell hslt
      have d1 : decide ((s : Int) < (M : Int)) = true := by simp; omega
      have d2 : (0 : Int) ≤ (s : Int) := by omega
      have d3 : (s : Int) < (M : Int) := by omega
      have w3 : IntKind.i64.wrap ((s : Int) + 1) = (s : Int) + 1 := by rw [IntKind.wrap_i64]; omega
      have hPe := Lib.hid hpe
      clear hr hpe hqe hsm
      rcases hab2 with hz | hz
      · have hfin := Lib.hid (hr0.out hz)
        rw [hz] at c
        clear hr0 hr1 hz
        go_wp2_with fail
        refine (kT.out _ _ _ q q hq hq hA.out hA.out).mono ?_
        rintro e w5 ⟨t, rfl, ht, hb⟩
        replace hO := Lib.hid (hO.out.step hb)
        replace hG := Lib.hid (hG.out.step hb)
        replace hL := Lib.hid (below_step hb hL.out (Nat.le_refl _))
        have hT := Lib.hid ht
        clear ht hb hA c
        dsimp only
        go_wp2_with fail
        refine (kRm.out _ _ q q hq hq hT.out hL.out).mono ?_
        rintro e w6 ⟨t2, rfl, ht, hb⟩
        replace hO := Lib.hid (hO.out.step hb)
        replace hG := Lib.hid (hG.out.step hb)
        replace hL := Lib.hid (below_step hb hL.out (Nat.le_refl _))
        have hT2 := Lib.hid ht
        clear ht hb hT
        dsimp only
        go_wp2_with fail
        go_roundw
        case rel => exact ⟨s + 1, p, q * q % m, by go_num, by omega, hp, hlm.out _, hfin.out, hr2.out, hO.out, hT2.out, hG.out, hL.out⟩
        case measure => simp [intOf]; omega
      · have hfin := Lib.hid (hr1.out hz)
        rw [hz] at c
        clear hr0 hr1 hz
        go_wp2_with fail
        refine (kT.out _ _ _ p q hp hq hO.out hA.out).mono ?_
        rintro e w5 ⟨t, rfl, ht, hb⟩
        replace hA := Lib.hid (hA.out.step hb)
        replace hG := Lib.hid (hG.out.step hb)
        replace hL := Lib.hid (below_step hb hL.out (Nat.le_refl _))
        have hT := Lib.hid ht
        clear ht hb hO c
        dsimp only
        go_wp2_with fail
        refine (kRm.out _ _ p q hp hq hT.out hL.out).mono ?_
        rintro e w6 ⟨t2, rfl, ht, hb⟩
        replace hA := Lib.hid (hA.out.step hb)
        replace hG := Lib.hid (hG.out.step hb)
        replace hL := Lib.hid (below_step hb hL.out (Nat.le_refl _))
        have hO := Lib.hid ht
        clear ht hb hT
        dsimp only
        go_wp2_with fail
        refine (kT.out _ _ _ q q hq hq hA.out hA.out).mono ?_
        rintro e w7 ⟨t3, rfl, ht, hb⟩
        replace hO := Lib.hid (hO.out.step hb)
        replace hG := Lib.hid (hG.out.step hb)
        replace hL := Lib.hid (below_step hb hL.out (Nat.le_refl _))
        have hT := Lib.hid ht
        clear ht hb hA
        dsimp only
        go_wp2_with fail
        refine (kRm.out _ _ q q hq hq hT.out hL.out).mono ?_
        rintro e w8 ⟨t4, rfl, ht, hb⟩
        replace hO := Lib.hid (hO.out.step hb)
        replace hG := Lib.hid (hG.out.step hb)
        replace hL := Lib.hid (below_step hb hL.out (Nat.le_refl _))
        have hT2 := Lib.hid ht
        clear ht hb hT
        dsimp only
        go_wp2_with fail
        go_roundw
        case rel => exact ⟨s + 1, p * q % m, q * q % m, by go_num, by omega, hlm.out _, hlm.out _, hfin.out, hr2.out, hO.out, hT2.out, hG.out, hL.out⟩
        case measure => simp [intOf]; omega
end Go.Proofs.YtodcjeaannfbnaaDoor
