/- Contract of quot.Inverse. -/
import Derived.Test.YtdlmamnnamlleaaDoorQuot
import Derived.Test.YtdlmamnnamlleaaDoorLimb4
import Derived.Test.YtdlmamnnamlleaaDoorLimbLo
import Derived.Test.YtdlmamnnamlleaaDoorFresh
import Derived.Deep.DeepCutAuto
import Derived.Deep.CutRange
namespace Go.Proofs.YtdlmamnnamlleaaDoor
open Go.ChangeShapes Go.WideShapes Go.ChangeAt Go.RowKit
set_option maxHeartbeats 1000000
set_option maxRecDepth 100000
attribute [local go_sem ↓] load_num store_num execl_num execs_num load_wide store_wide execl_wide execs_wide
attribute [local go_sem] isHead_mk blkOf_mk isAgg_mk cellsV_mk row_drew rowAt_drew row_new_cells row_old rowAt_new rowAt_old setRow_new row_setRow_far rowAt_setRow_far

theorem mod_cancel {x y z m : Nat} (h : (x + z) % m = (y + z) % m) : x % m = y % m := by
  have h1 := Nat.mod_add_div (x + z) m
  have h2 := Nat.mod_add_div (y + z) m
  have e : x + m * ((y + z) / m) = y + m * ((x + z) / m) := by omega
  rw [← Nat.add_mul_mod_self_left x m ((y + z) / m), e, Nat.add_mul_mod_self_left]
/-- What Inverse's loop keeps. -/
structure IvI (a m r0 r1 s0 s1 : Nat) : Prop where
  l0 : s0 < m
  l1 : s1 < m
  e0 : a * s0 % m = r0 % m
  e1 : a * s1 % m = r1 % m
  g : Nat.gcd r0 r1 = Nat.gcd a m
theorem IvI.start {a m : Nat} (hm : 1 < m) : IvI a m m (a % m) 0 1 :=
  ⟨by omega, hm, by simp, by simp, by rw [Nat.gcd_comm m, ← Nat.gcd_rec, Nat.gcd_comm]⟩
/-- The next s. -/
def nextS (m q s0 s1 : Nat) : Nat := if q * s1 % m ≤ s0 then s0 - q * s1 % m else s0 + m - q * s1 % m
theorem IvI.next {a m r0 r1 s0 s1 : Nat} (h : IvI a m r0 r1 s0 s1) : IvI a m r1 (r0 % r1) s1 (nextS m (r0 / r1) s0 s1) := by
  have hm : 0 < m := by have := h.l0; omega
  have ho := Nat.mod_lt (r0 / r1 * s1) hm
  have hl0 := h.l0
  refine ⟨h.l1, ?_, h.e1, ?_, ?_⟩
  · unfold nextS; split <;> omega
  · have hs : (nextS m (r0 / r1) s0 s1 + r0 / r1 * s1 % m) % m = s0 % m := by
      unfold nextS
      split
      · rw [Nat.sub_add_cancel (by assumption)]
      · rw [Nat.sub_add_cancel (by omega), Nat.add_mod_right]
    have h1 : (a * nextS m (r0 / r1) s0 s1 + r0 / r1 * r1) % m = (r0 % r1 + r0 / r1 * r1) % m := by
      rw [Nat.mod_add_div' r0 r1, ← h.e0]
      have h2 : a * s0 % m = a * (nextS m (r0 / r1) s0 s1 + r0 / r1 * s1 % m) % m := by rw [Nat.mul_mod a s0, ← hs, ← Nat.mul_mod]
      rw [h2, Nat.mul_add, Nat.add_mod, Nat.add_mod (a * nextS m (r0 / r1) s0 s1)]
      congr 2
      have e3 : a * (r0 / r1 * s1 % m) % m = a * (r0 / r1 * s1) % m := by rw [Nat.mul_mod, Nat.mod_mod, ← Nat.mul_mod]
      rw [e3, Nat.mul_left_comm, Nat.mul_mod, ← h.e1, ← Nat.mul_mod]
    exact mod_cancel h1
  · rw [← h.g, Nat.gcd_comm r0 r1, Nat.gcd_rec r1 r0, Nat.gcd_comm]
/-- What Inverse answers. -/
def InvP (a m s c : Nat) : Prop := (m = 0 ∧ s = 0 ∧ c = 1) ∨ (m ≠ 0 ∧ Nat.gcd a m ≠ 1 ∧ s = 0 ∧ c = 6) ∨ (m ≠ 0 ∧ Nat.gcd a m = 1 ∧ c = 0 ∧ s < m ∧ a * s % m = 1 % m)
theorem IvI.none {a m r0 s0 s1 : Nat} (h : IvI a m r0 0 s0 s1) (hr : r0 ≠ 1) : InvP a m 0 6 :=
  .inr (.inl ⟨by have := h.l0; omega, by rw [← h.g, Nat.gcd_zero_right]; exact hr, rfl, rfl⟩)
theorem IvI.some {a m s0 s1 : Nat} (h : IvI a m 1 0 s0 s1) : InvP a m s0 0 :=
  .inr (.inr ⟨by have := h.l0; omega, by rw [← h.g, Nat.gcd_zero_right], rfl, h.l0, h.e0⟩)
theorem inv_one (a : Nat) : InvP a 1 0 0 := .inr (.inr ⟨by omega, Nat.gcd_one_right a, rfl, by omega, by simp⟩)
def RetInv (a m : Nat) (w : World) (e : Ending) (w' : World) : Prop := ∃ s c : Nat, e = .returned (.tuple #[.agg (arrK .u64 4 (wd s)), .int .i64 (c : Int)]) ∧ InvP a m s c ∧ s < 2 ^ 256 ∧ Below w.heap.size w w'
theorem cells4 : Cells #[Value.int IntKind.u64 0, Value.int IntKind.u64 0, Value.int IntKind.u64 0, Value.int IntKind.u64 0] 4 := by rw [zeroNum]; exact arrK_cells _ _ _
theorem cells8 : Cells #[Value.int IntKind.u64 0, Value.int IntKind.u64 0, Value.int IntKind.u64 0, Value.int IntKind.u64 0, Value.int IntKind.u64 0, Value.int IntKind.u64 0, Value.int IntKind.u64 0, Value.int IntKind.u64 0] 8 := by rw [zeroWide]; exact arrK_cells _ _ _
theorem oneNum : #[Value.int IntKind.u64 1, Value.int IntKind.u64 0, Value.int IntKind.u64 0, Value.int IntKind.u64 0] = arrK .u64 4 (wd 1) :=
  (arrK4 .u64 (wd 1)).symm ▸ rfl
structure IvAt (w : World) (h a m : Nat) : Prop where
  A : NumAt w h a
  M : NumAt w (h + 1) m
  O : Row w (h + 1 + 1) 4
  Z : NumAt w (h + 1 + 1 + 1) 0
theorem IvAt.step {w w' : World} {h a m : Nat} (k : IvAt w h a m) (hb : Below w.heap.size w w') : IvAt w' h a m :=
  ⟨k.A.step hb, k.M.step hb, row_below k.O hb k.O.lt, k.Z.step hb⟩
theorem IvAt.drew {w : World} {h a m : Nat} (k : IvAt w h a m) : IvAt w.drew h a m := ⟨k.A.drew, k.M.drew, k.O, k.Z.drew⟩
theorem IvAt.far {w : World} {h a m g : Nat} {c : Array Value} (k : IvAt w h a m) (hg : h + 4 ≤ g) : IvAt (w.setRow g c) h a m :=
  ⟨k.A.far (by omega), k.M.far (by omega), (row_setRow_far (by omega)).2 k.O, k.Z.far (by omega)⟩
theorem iv_start (w : World) (a m : Nat) : IvAt ((((w.alloc (Obj.cells (arrK .u64 4 (wd a)) 41)).alloc (Obj.cells (arrK .u64 4 (wd m)) 41)).alloc (Obj.cells (arrK .u64 4 (wd 0)) 41)).alloc (Obj.cells (arrK .u64 4 (wd 0)) 41)) w.heap.size a m :=
  ⟨(((At.new _ rfl).old _).old _).old _, ((At.new _ (by simp)).old _).old _, ((At.new (k := .u64) (f := wd 0) _ (by simp)).old _).row, At.new _ (by simp)⟩
theorem wideC0 (a : Nat) (w : World) (ha : a < 2 ^ 256) : Calls Tryd.prog 109 #[.agg (arrK .u64 4 (wd a)), .agg (arrK .u64 4 (wd 0))] w fun e w' => e = .returned (.agg (arrK .u64 8 (wd a))) ∧ Below w.heap.size w w' := by
  have h := limb_Wide a 0 w ha
  rw [Nat.mul_zero, Nat.add_zero] at h
  exact h

/-- The number in a block. -/
def numIn (w : World) (g : Nat) : Nat := wval (fun i => (intOf ((rowAt w g)[i]?.getD undef)).toNat) 4
theorem numIn_at {w : World} {g n : Nat} (h : NumAt w g n) (hn : n < 2 ^ 256) : numIn w g = n := by
  unfold numIn
  rw [h.eq, wval_congr (g := wd n) fun i hi => by rw [arrK_at hi]; simp [intOf], wval_wd]
  exact Nat.mod_eq_of_lt hn
theorem sub_ge {a b : Nat} (ha : a < 2 ^ 256) (h : b ≤ a) : subN a b = a - b ∧ lessN a b = 0 := by
  refine ⟨?_, if_neg (by omega)⟩
  unfold subN
  rw [show a + 2 ^ 256 - b = (a - b) + 2 ^ 256 by omega, Nat.add_mod_right, Nat.mod_eq_of_lt (by omega)]
theorem sub_lt {a b : Nat} (h : a < b) : subN a b = a + 2 ^ 256 - b ∧ lessN a b = 1 := by
  refine ⟨?_, if_pos h⟩
  unfold subN
  rw [Nat.mod_eq_of_lt (by omega)]
theorem lt_more {r e k : Nat} (h : r < 2 ^ e) (he : e ≤ k) : r < 2 ^ k := Nat.lt_of_lt_of_le h (Nat.pow_le_pow_right (by decide) he)
theorem add_back {a b m : Nat} (hm : m < 2 ^ 256) (h : a < b) (hb : b < m) : addN (a + 2 ^ 256 - b) m = a + m - b := by
  unfold addN
  rw [show a + 2 ^ 256 - b + m = (a + m - b) + 2 ^ 256 by omega, Nat.add_mod_right, Nat.mod_eq_of_lt (by omega)]
/-- The four numbers of Inverse's loop in their blocks. -/
structure IvB (w : World) (b g0 g1 h0 h1 r0 r1 s0 s1 : Nat) : Prop where
  R0 : NumAt w g0 r0
  R1 : NumAt w g1 r1
  S0 : NumAt w h0 s0
  S1 : NumAt w h1 s1
  le : b + 4 ≤ g0 ∧ b + 4 ≤ g1 ∧ b + 4 ≤ h0 ∧ b + 4 ≤ h1
  ne : g0 ≠ g1 ∧ g0 ≠ h0 ∧ g0 ≠ h1 ∧ g1 ≠ h0 ∧ g1 ≠ h1 ∧ h0 ≠ h1
theorem IvB.step {w w' : World} {b g0 g1 h0 h1 r0 r1 s0 s1 : Nat} (k : IvB w b g0 g1 h0 h1 r0 r1 s0 s1) (hb : Below w.heap.size w w') : IvB w' b g0 g1 h0 h1 r0 r1 s0 s1 :=
  ⟨k.R0.step hb, k.R1.step hb, k.S0.step hb, k.S1.step hb, k.le, k.ne⟩
theorem IvB.drew {w : World} {b g0 g1 h0 h1 r0 r1 s0 s1 : Nat} (k : IvB w b g0 g1 h0 h1 r0 r1 s0 s1) : IvB w.drew b g0 g1 h0 h1 r0 r1 s0 s1 :=
  ⟨k.R0.drew, k.R1.drew, k.S0.drew, k.S1.drew, k.le, k.ne⟩
/-- A block that is none of the four. -/
def IvF (g0 g1 h0 h1 g : Nat) : Prop := g ≠ g0 ∧ g ≠ g1 ∧ g ≠ h0 ∧ g ≠ h1
theorem ivF_of {w : World} {b g0 g1 h0 h1 r0 r1 s0 s1 g : Nat} (k : IvB w b g0 g1 h0 h1 r0 r1 s0 s1) (hg : w.heap.size ≤ g) : IvF g0 g1 h0 h1 g := by
  have := k.R0.lt
  have := k.R1.lt
  have := k.S0.lt
  have := k.S1.lt
  exact ⟨by omega, by omega, by omega, by omega⟩
theorem lt_mul {a b e k : Nat} (ha : a < 2 ^ e) (hb : b < 2 ^ e) (hk : e + e ≤ k) : a * b < 2 ^ k := by
  have h := Nat.mul_lt_mul'' ha hb
  rw [← Nat.pow_add] at h
  exact Nat.lt_of_lt_of_le h (Nat.pow_le_pow_right (by decide) hk)
theorem nextS_ge {m q s0 s1 off : Nat} (e : q * s1 % m = off) (h : off ≤ s0) : nextS m q s0 s1 = s0 - off := by unfold nextS; rw [e, if_pos h]
theorem nextS_lt {m q s0 s1 off : Nat} (e : q * s1 % m = off) (h : ¬off ≤ s0) : nextS m q s0 s1 = s0 + m - off := by unfold nextS; rw [e, if_neg h]
theorem IvB.far {w : World} {b g0 g1 h0 h1 r0 r1 s0 s1 g : Nat} {c : Array Value} (k : IvB w b g0 g1 h0 h1 r0 r1 s0 s1) (hg : IvF g0 g1 h0 h1 g) : IvB (w.setRow g c) b g0 g1 h0 h1 r0 r1 s0 s1 :=
  ⟨k.R0.far hg.1.symm, k.R1.far hg.2.1.symm, k.S0.far hg.2.2.1.symm, k.S1.far hg.2.2.2.symm, k.le, k.ne⟩
theorem IvB.move {w : World} {b g0 g1 h0 h1 r0 r1 s0 s1 : Nat} (k : IvB w b g0 g1 h0 h1 r0 r1 s0 s1) (r s : Nat) :
    IvB ((((w.setRow g0 (arrK .u64 4 (wd r1))).setRow g1 (arrK .u64 4 (wd r))).setRow h0 (arrK .u64 4 (wd s1))).setRow h1 (arrK .u64 4 (wd s))) b g0 g1 h0 h1 r1 r s1 s := by
  obtain ⟨n1, n2, n3, n4, n5, n6⟩ := k.ne
  refine ⟨(((At.put k.R0.row).far n1).far n2).far n3, ((At.put ((row_setRow_far n1.symm).2 k.R1.row)).far n4).far n5, (At.put ((row_setRow_far n4.symm).2 ((row_setRow_far n2.symm).2 k.S0.row))).far n6, At.put ((row_setRow_far n6.symm).2 ((row_setRow_far n5.symm).2 ((row_setRow_far n3.symm).2 k.S1.row))), k.le, k.ne⟩
theorem ivB_of {w : World} {b z g0 g1 h0 h1 r0 r1 s0 s1 : Nat} (hz : b + 4 ≤ z) (k0 : z ≤ g0 ∧ Row w g0 4) (k1 : z ≤ g1 ∧ Row w g1 4) (k2 : z ≤ h0 ∧ Row w h0 4) (k3 : z ≤ h1 ∧ Row w h1 4)
    (e0 : rowAt w g0 = arrK .u64 4 (wd r0)) (e1 : rowAt w g1 = arrK .u64 4 (wd r1)) (e2 : rowAt w h0 = arrK .u64 4 (wd s0)) (e3 : rowAt w h1 = arrK .u64 4 (wd s1))
    (n0 : g0 ≠ g1) (n1 : g0 ≠ h0) (n2 : g0 ≠ h1) (n3 : g1 ≠ h0) (n4 : g1 ≠ h1) (n5 : h0 ≠ h1) : IvB w b g0 g1 h0 h1 r0 r1 s0 s1 :=
  ⟨⟨k0.2, e0⟩, ⟨k1.2, e1⟩, ⟨k2.2, e2⟩, ⟨k3.2, e3⟩, ⟨by omega, by omega, by omega, by omega⟩, n0, n1, n2, n3, n4, n5⟩

theorem mulC (a b : Nat) (ha : a < 2 ^ 256) (hb : b < 2 ^ 256) (w : World) : Calls Tryd.prog 82 #[.agg (arrK .u64 4 (wd a)), .agg (arrK .u64 4 (wd b))] w fun e w' => e = .returned (.agg (arrK .u64 8 (wd (a * b)))) ∧ Below w.heap.size w w' := limb_Mul a b w ha hb
theorem modC (x m k : Nat) (hx : x < 2 ^ k) (hk : k = 64 * 8) (hm : m < 2 ^ 256) (h0 : 0 < m) (w : World) : Calls Tryd.prog 110 #[.agg (arrK .u64 8 (wd x)), .agg (arrK .u64 4 (wd m))] w fun e w' => e = .returned (.tuple #[.agg (arrK .u64 4 (wd (x % m))), .int .i64 0]) ∧ Below w.heap.size w w' := by
  subst hk
  exact quot_Mod x m w hx hm (by omega)
theorem divC (x m : Nat) (hx : x < 2 ^ 256) (hm : m < 2 ^ 256) (h0 : m ≠ 0) (w : World) : Calls Tryd.prog 119 #[.agg (arrK .u64 8 (wd x)), .agg (arrK .u64 4 (wd m))] w fun e w' => e = .returned (.tuple #[.agg (arrK .u64 8 (wd (x / m))), .agg (arrK .u64 4 (wd (x % m))), .int .i64 0]) ∧ Below w.heap.size w w' := by
  obtain ⟨k, hk⟩ : ∃ k, k = 64 * 8 := ⟨_, rfl⟩
  have hx' : x < 2 ^ k := lt_more hx (by omega)
  subst hk
  exact quot_DivMod x m w hx' hm h0
theorem modC2 (x m : Nat) (hx : x < 2 ^ 256) (hm : m < 2 ^ 256) (h0 : 0 < m) (w : World) : Calls Tryd.prog 110 #[.agg (arrK .u64 8 (wd x)), .agg (arrK .u64 4 (wd m))] w fun e w' => e = .returned (.tuple #[.agg (arrK .u64 4 (wd (x % m))), .int .i64 0]) ∧ Below w.heap.size w w' := by
  obtain ⟨k, hk⟩ : ∃ k, k = 64 * 8 := ⟨_, rfl⟩
  exact modC x m k (lt_more hx (by omega)) hk hm h0 w
theorem modC3 (x y m : Nat) (hx : x < 2 ^ 256) (hy : y < 2 ^ 256) (hm : m < 2 ^ 256) (h0 : 0 < m) (w : World) : Calls Tryd.prog 110 #[.agg (arrK .u64 8 (wd (x * y))), .agg (arrK .u64 4 (wd m))] w fun e w' => e = .returned (.tuple #[.agg (arrK .u64 4 (wd (x * y % m))), .int .i64 0]) ∧ Below w.heap.size w w' := by
  obtain ⟨k, hk⟩ : ∃ k, k = 64 * 8 := ⟨_, rfl⟩
  exact modC (x * y) m k (lt_mul hx hy (by omega)) hk hm h0 w

theorem subGe (a b : Nat) (ha : a < 2 ^ 256) (h : b ≤ a) (w : World) : Calls Tryd.prog 33 #[.agg (arrK .u64 4 (wd a)), .agg (arrK .u64 4 (wd b))] w fun e w' => e = .returned (.tuple #[.agg (arrK .u64 4 (wd (a - b))), .int .u64 0]) ∧ Below w.heap.size w w' := by
  have hc := limb_Sub a b w ha (by omega)
  rw [(sub_ge ha h).1, (sub_ge ha h).2] at hc
  exact hc
theorem subLt (a b : Nat) (ha : a < 2 ^ 256) (hb : b < 2 ^ 256) (h : a < b) (w : World) : Calls Tryd.prog 33 #[.agg (arrK .u64 4 (wd a)), .agg (arrK .u64 4 (wd b))] w fun e w' => e = .returned (.tuple #[.agg (arrK .u64 4 (wd (a + 2 ^ 256 - b))), .int .u64 1]) ∧ Below w.heap.size w w' := by
  have hc := limb_Sub a b w ha hb
  rw [(sub_lt h).1, (sub_lt h).2] at hc
  exact hc
theorem addBack (a b m : Nat) (hm : m < 2 ^ 256) (h : a < b) (hb : b < m) (w : World) : Calls Tryd.prog 79 #[.agg (arrK .u64 4 (wd (a + 2 ^ 256 - b))), .agg (arrK .u64 4 (wd m))] w fun e w' => (∃ c : Nat, e = .returned (.tuple #[.agg (arrK .u64 4 (wd (a + m - b))), .int .u64 c])) ∧ Below w.heap.size w w' := by
  have hc := limb_Add (a + 2 ^ 256 - b) m w (by omega) hm
  rw [add_back hm h hb] at hc
  exact hc.mono fun e w' h => ⟨⟨_, h.1⟩, h.2⟩
end Go.Proofs.YtdlmamnnamlleaaDoor
