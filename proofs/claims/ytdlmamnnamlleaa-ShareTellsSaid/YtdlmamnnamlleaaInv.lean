/- Contract of quot.Inverse. -/
import Derived.Test.YtdlmamnnamlleaaQuot
import Derived.Test.YtdlmamnnamlleaaLimb4
import Derived.Test.YtdlmamnnamlleaaLimbLo
import Derived.Test.YtdlmamnnamlleaaFresh
import Derived.Deep.DeepCutAuto
import Derived.Deep.CutRange
namespace Go.Proofs.Ytdlmamnnamlleaa
open Go.ChangeShapes Go.WideShapes Go.ChangeAt Go.RowKit
set_option maxHeartbeats 1000000
set_option maxRecDepth 100000
attribute [local go_sem ↓] load_num store_num execl_num execs_num load_wide store_wide execl_wide execs_wide
attribute [local go_sem] isHead_mk blkOf_mk isAgg_mk cellsV_mk row_drew rowAt_drew row_new_cells row_old rowAt_new rowAt_old setRow_new row_setRow_far rowAt_setRow_far

theorem mod_cancel {x y z m : Nat} (h : (x + z) % m = (y + z) % m) : x % m = y % m := by
  have h1 := Nat.mod_add_div (x + z) m
  have h2 := Nat.mod_add_div (y + z) m
  have e : x + m * ((y + z) / m) = y + m * ((x + z) / m) := by omega
  rw [← Nat.add_mul_mod_self_left x m ((y + z) / m), e, Nat.add_mul_mod_self_left]
/-- What Inverse's loop keeps. -/
structure IvI (a m r0 r1 s0 s1 : Nat) : Prop where
  l0 : s0 < m
  l1 : s1 < m
  e0 : a * s0 % m = r0 % m
  e1 : a * s1 % m = r1 % m
  g : Nat.gcd r0 r1 = Nat.gcd a m
theorem IvI.start {a m : Nat} (hm : 1 < m) : IvI a m m (a % m) 0 1 :=
  ⟨by omega, hm, by simp, by simp, by rw [Nat.gcd_comm m, ← Nat.gcd_rec, Nat.gcd_comm]⟩
/-- The next s. -/
def nextS (m q s0 s1 : Nat) : Nat := if q * s1 % m ≤ s0 then s0 - q * s1 % m else s0 + m - q * s1 % m
theorem IvI.next {a m r0 r1 s0 s1 : Nat} (h : IvI a m r0 r1 s0 s1) : IvI a m r1 (r0 % r1) s1 (nextS m (r0 / r1) s0 s1) := by
  have hm : 0 < m := by have := h.l0; omega
  have ho := Nat.mod_lt (r0 / r1 * s1) hm
  have hl0 := h.l0
  refine ⟨h.l1, ?_, h.e1, ?_, ?_⟩
  · unfold nextS; split <;> omega
  · have hs : (nextS m (r0 / r1) s0 s1 + r0 / r1 * s1 % m) % m = s0 % m := by
      unfold nextS
      split
      · rw [Nat.sub_add_cancel (by assumption)]
      · rw [Nat.sub_add_cancel (by omega), Nat.add_mod_right]
    have h1 : (a * nextS m (r0 / r1) s0 s1 + r0 / r1 * r1) % m = (r0 % r1 + r0 / r1 * r1) % m := by
      rw [Nat.mod_add_div' r0 r1, ← h.e0]
      have h2 : a * s0 % m = a * (nextS m (r0 / r1) s0 s1 + r0 / r1 * s1 % m) % m := by rw [Nat.mul_mod a s0, ← hs, ← Nat.mul_mod]
      rw [h2, Nat.mul_add, Nat.add_mod, Nat.add_mod (a * nextS m (r0 / r1) s0 s1)]
      congr 2
      have e3 : a * (r0 / r1 * s1 % m) % m = a * (r0 / r1 * s1) % m := by rw [Nat.mul_mod, Nat.mod_mod, ← Nat.mul_mod]
      rw [e3, Nat.mul_left_comm, Nat.mul_mod, ← h.e1, ← Nat.mul_mod]
    exact mod_cancel h1
  · rw [← h.g, Nat.gcd_comm r0 r1, Nat.gcd_rec r1 r0, Nat.gcd_comm]
/-- What Inverse answers. -/
def InvP (a m s c : Nat) : Prop := (m = 0 ∧ s = 0 ∧ c = 1) ∨ (m ≠ 0 ∧ Nat.gcd a m ≠ 1 ∧ s = 0 ∧ c = 6) ∨ (m ≠ 0 ∧ Nat.gcd a m = 1 ∧ c = 0 ∧ s < m ∧ a * s % m = 1 % m)
theorem IvI.none {a m r0 s0 s1 : Nat} (h : IvI a m r0 0 s0 s1) (hr : r0 ≠ 1) : InvP a m 0 6 :=
  .inr (.inl ⟨by have := h.l0; omega, by rw [← h.g, Nat.gcd_zero_right]; exact hr, rfl, rfl⟩)
theorem IvI.some {a m s0 s1 : Nat} (h : IvI a m 1 0 s0 s1) : InvP a m s0 0 :=
  .inr (.inr ⟨by have := h.l0; omega, by rw [← h.g, Nat.gcd_zero_right], rfl, h.l0, h.e0⟩)
theorem inv_one (a : Nat) : InvP a 1 0 0 := .inr (.inr ⟨by omega, Nat.gcd_one_right a, rfl, by omega, by simp⟩)
def RetInv (a m : Nat) (w : World) (e : Ending) (w' : World) : Prop := ∃ s c : Nat, e = .returned (.tuple #[.agg (arrK .u64 4 (wd s)), .int .i64 (c : Int)]) ∧ InvP a m s c ∧ s < 2 ^ 256 ∧ Below w.heap.size w w'
theorem cells4 : Cells #[Value.int IntKind.u64 0, Value.int IntKind.u64 0, Value.int IntKind.u64 0, Value.int IntKind.u64 0] 4 := by rw [zeroNum]; exact arrK_cells _ _ _
theorem cells8 : Cells #[Value.int IntKind.u64 0, Value.int IntKind.u64 0, Value.int IntKind.u64 0, Value.int IntKind.u64 0, Value.int IntKind.u64 0, Value.int IntKind.u64 0, Value.int IntKind.u64 0, Value.int IntKind.u64 0] 8 := by rw [zeroWide]; exact arrK_cells _ _ _
theorem oneNum : #[Value.int IntKind.u64 1, Value.int IntKind.u64 0, Value.int IntKind.u64 0, Value.int IntKind.u64 0] = arrK .u64 4 (wd 1) :=
  (arrK4 .u64 (wd 1)).symm ▸ rfl
structure IvAt (w : World) (h a m : Nat) : Prop where
  A : NumAt w h a
  M : NumAt w (h + 1) m
  O : Row w (h + 1 + 1) 4
  Z : NumAt w (h + 1 + 1 + 1) 0
theorem IvAt.step {w w' : World} {h a m : Nat} (k : IvAt w h a m) (hb : Below w.heap.size w w') : IvAt w' h a m :=
  ⟨k.A.step hb, k.M.step hb, row_below k.O hb k.O.lt, k.Z.step hb⟩
theorem IvAt.drew {w : World} {h a m : Nat} (k : IvAt w h a m) : IvAt w.drew h a m := ⟨k.A.drew, k.M.drew, k.O, k.Z.drew⟩
theorem IvAt.far {w : World} {h a m g : Nat} {c : Array Value} (k : IvAt w h a m) (hg : h + 4 ≤ g) : IvAt (w.setRow g c) h a m :=
  ⟨k.A.far (by omega), k.M.far (by omega), (row_setRow_far (by omega)).2 k.O, k.Z.far (by omega)⟩
theorem iv_start (w : World) (a m : Nat) : IvAt ((((w.alloc (Obj.cells (arrK .u64 4 (wd a)) 27)).alloc (Obj.cells (arrK .u64 4 (wd m)) 27)).alloc (Obj.cells (arrK .u64 4 (wd 0)) 27)).alloc (Obj.cells (arrK .u64 4 (wd 0)) 27)) w.heap.size a m :=
  ⟨(((At.new _ rfl).old _).old _).old _, ((At.new _ (by simp)).old _).old _, ((At.new (k := .u64) (f := wd 0) _ (by simp)).old _).row, At.new _ (by simp)⟩
theorem wideC0 (a : Nat) (w : World) (ha : a < 2 ^ 256) : Calls Try.prog 144 #[.agg (arrK .u64 4 (wd a)), .agg (arrK .u64 4 (wd 0))] w fun e w' => e = .returned (.agg (arrK .u64 8 (wd a))) ∧ Below w.heap.size w w' := by
  have h := limb_Wide a 0 w ha
  rw [Nat.mul_zero, Nat.add_zero] at h
  exact h

/-- The number in a block. -/
def numIn (w : World) (g : Nat) : Nat := wval (fun i => (intOf ((rowAt w g)[i]?.getD undef)).toNat) 4
theorem numIn_at {w : World} {g n : Nat} (h : NumAt w g n) (hn : n < 2 ^ 256) : numIn w g = n := by
  unfold numIn
  rw [h.eq, wval_congr (g := wd n) fun i hi => by rw [arrK_at hi]; simp [intOf], wval_wd]
  exact Nat.mod_eq_of_lt hn
theorem sub_ge {a b : Nat} (ha : a < 2 ^ 256) (h : b ≤ a) : subN a b = a - b ∧ lessN a b = 0 := by
  refine ⟨?_, if_neg (by omega)⟩
  unfold subN
  rw [show a + 2 ^ 256 - b = (a - b) + 2 ^ 256 by omega, Nat.add_mod_right, Nat.mod_eq_of_lt (by omega)]
theorem sub_lt {a b : Nat} (h : a < b) : subN a b = a + 2 ^ 256 - b ∧ lessN a b = 1 := by
  refine ⟨?_, if_pos h⟩
  unfold subN
  rw [Nat.mod_eq_of_lt (by omega)]
theorem lt_more {r e k : Nat} (h : r < 2 ^ e) (he : e ≤ k) : r < 2 ^ k := Nat.lt_of_lt_of_le h (Nat.pow_le_pow_right (by decide) he)
theorem add_back {a b m : Nat} (hm : m < 2 ^ 256) (h : a < b) (hb : b < m) : addN (a + 2 ^ 256 - b) m = a + m - b := by
  unfold addN
  rw [show a + 2 ^ 256 - b + m = (a + m - b) + 2 ^ 256 by omega, Nat.add_mod_right, Nat.mod_eq_of_lt (by omega)]
/-- The four numbers of Inverse's loop in their blocks. -/
structure IvB (w : World) (b g0 g1 h0 h1 r0 r1 s0 s1 : Nat) : Prop where
  R0 : NumAt w g0 r0
  R1 : NumAt w g1 r1
  S0 : NumAt w h0 s0
  S1 : NumAt w h1 s1
  le : b + 4 ≤ g0 ∧ b + 4 ≤ g1 ∧ b + 4 ≤ h0 ∧ b + 4 ≤ h1
  ne : g0 ≠ g1 ∧ g0 ≠ h0 ∧ g0 ≠ h1 ∧ g1 ≠ h0 ∧ g1 ≠ h1 ∧ h0 ≠ h1
theorem IvB.step {w w' : World} {b g0 g1 h0 h1 r0 r1 s0 s1 : Nat} (k : IvB w b g0 g1 h0 h1 r0 r1 s0 s1) (hb : Below w.heap.size w w') : IvB w' b g0 g1 h0 h1 r0 r1 s0 s1 :=
  ⟨k.R0.step hb, k.R1.step hb, k.S0.step hb, k.S1.step hb, k.le, k.ne⟩
theorem IvB.drew {w : World} {b g0 g1 h0 h1 r0 r1 s0 s1 : Nat} (k : IvB w b g0 g1 h0 h1 r0 r1 s0 s1) : IvB w.drew b g0 g1 h0 h1 r0 r1 s0 s1 :=
  ⟨k.R0.drew, k.R1.drew, k.S0.drew, k.S1.drew, k.le, k.ne⟩
/-- A block that is none of the four. -/
def IvF (g0 g1 h0 h1 g : Nat) : Prop := g ≠ g0 ∧ g ≠ g1 ∧ g ≠ h0 ∧ g ≠ h1
theorem ivF_of {w : World} {b g0 g1 h0 h1 r0 r1 s0 s1 g : Nat} (k : IvB w b g0 g1 h0 h1 r0 r1 s0 s1) (hg : w.heap.size ≤ g) : IvF g0 g1 h0 h1 g := by
  have := k.R0.lt
  have := k.R1.lt
  have := k.S0.lt
  have := k.S1.lt
  exact ⟨by omega, by omega, by omega, by omega⟩
theorem lt_mul {a b e k : Nat} (ha : a < 2 ^ e) (hb : b < 2 ^ e) (hk : e + e ≤ k) : a * b < 2 ^ k := by
  have h := Nat.mul_lt_mul'' ha hb
  rw [← Nat.pow_add] at h
  exact Nat.lt_of_lt_of_le h (Nat.pow_le_pow_right (by decide) hk)
theorem nextS_ge {m q s0 s1 off : Nat} (e : q * s1 % m = off) (h : off ≤ s0) : nextS m q s0 s1 = s0 - off := by unfold nextS; rw [e, if_pos h]
theorem nextS_lt {m q s0 s1 off : Nat} (e : q * s1 % m = off) (h : ¬off ≤ s0) : nextS m q s0 s1 = s0 + m - off := by unfold nextS; rw [e, if_neg h]
theorem IvB.far {w : World} {b g0 g1 h0 h1 r0 r1 s0 s1 g : Nat} {c : Array Value} (k : IvB w b g0 g1 h0 h1 r0 r1 s0 s1) (hg : IvF g0 g1 h0 h1 g) : IvB (w.setRow g c) b g0 g1 h0 h1 r0 r1 s0 s1 :=
  ⟨k.R0.far hg.1.symm, k.R1.far hg.2.1.symm, k.S0.far hg.2.2.1.symm, k.S1.far hg.2.2.2.symm, k.le, k.ne⟩
theorem IvB.move {w : World} {b g0 g1 h0 h1 r0 r1 s0 s1 : Nat} (k : IvB w b g0 g1 h0 h1 r0 r1 s0 s1) (r s : Nat) :
    IvB ((((w.setRow g0 (arrK .u64 4 (wd r1))).setRow g1 (arrK .u64 4 (wd r))).setRow h0 (arrK .u64 4 (wd s1))).setRow h1 (arrK .u64 4 (wd s))) b g0 g1 h0 h1 r1 r s1 s := by
  obtain ⟨n1, n2, n3, n4, n5, n6⟩ := k.ne
  refine ⟨(((At.put k.R0.row).far n1).far n2).far n3, ((At.put ((row_setRow_far n1.symm).2 k.R1.row)).far n4).far n5, (At.put ((row_setRow_far n4.symm).2 ((row_setRow_far n2.symm).2 k.S0.row))).far n6, At.put ((row_setRow_far n6.symm).2 ((row_setRow_far n5.symm).2 ((row_setRow_far n3.symm).2 k.S1.row))), k.le, k.ne⟩
theorem ivB_of {w : World} {b z g0 g1 h0 h1 r0 r1 s0 s1 : Nat} (hz : b + 4 ≤ z) (k0 : z ≤ g0 ∧ Row w g0 4) (k1 : z ≤ g1 ∧ Row w g1 4) (k2 : z ≤ h0 ∧ Row w h0 4) (k3 : z ≤ h1 ∧ Row w h1 4)
    (e0 : rowAt w g0 = arrK .u64 4 (wd r0)) (e1 : rowAt w g1 = arrK .u64 4 (wd r1)) (e2 : rowAt w h0 = arrK .u64 4 (wd s0)) (e3 : rowAt w h1 = arrK .u64 4 (wd s1))
    (n0 : g0 ≠ g1) (n1 : g0 ≠ h0) (n2 : g0 ≠ h1) (n3 : g1 ≠ h0) (n4 : g1 ≠ h1) (n5 : h0 ≠ h1) : IvB w b g0 g1 h0 h1 r0 r1 s0 s1 :=
  ⟨⟨k0.2, e0⟩, ⟨k1.2, e1⟩, ⟨k2.2, e2⟩, ⟨k3.2, e3⟩, ⟨by omega, by omega, by omega, by omega⟩, n0, n1, n2, n3, n4, n5⟩

theorem lowC (q : Nat) (hq : q < 2 ^ 256) (w : World) : Calls Try.prog 147 #[.agg (arrK .u64 8 (wd q))] w fun e w' => e = .returned (.agg (arrK .u64 4 (wd q))) ∧ Below w.heap.size w w' := by
  have h := limb_Low q w
  rw [Nat.mod_eq_of_lt hq] at h
  exact h
theorem mulC (a b : Nat) (ha : a < 2 ^ 256) (hb : b < 2 ^ 256) (w : World) : Calls Try.prog 114 #[.agg (arrK .u64 4 (wd a)), .agg (arrK .u64 4 (wd b))] w fun e w' => e = .returned (.agg (arrK .u64 8 (wd (a * b)))) ∧ Below w.heap.size w w' := limb_Mul a b w ha hb
theorem modC (x m k : Nat) (hx : x < 2 ^ k) (hk : k = 64 * 8) (hm : m < 2 ^ 256) (h0 : 0 < m) (w : World) : Calls Try.prog 141 #[.agg (arrK .u64 8 (wd x)), .agg (arrK .u64 4 (wd m))] w fun e w' => e = .returned (.tuple #[.agg (arrK .u64 4 (wd (x % m))), .int .i64 0]) ∧ Below w.heap.size w w' := by
  subst hk
  exact quot_Mod x m w hx hm (by omega)
theorem divC (x m : Nat) (hx : x < 2 ^ 256) (hm : m < 2 ^ 256) (h0 : m ≠ 0) (w : World) : Calls Try.prog 146 #[.agg (arrK .u64 8 (wd x)), .agg (arrK .u64 4 (wd m))] w fun e w' => e = .returned (.tuple #[.agg (arrK .u64 8 (wd (x / m))), .agg (arrK .u64 4 (wd (x % m))), .int .i64 0]) ∧ Below w.heap.size w w' := by
  obtain ⟨k, hk⟩ : ∃ k, k = 64 * 8 := ⟨_, rfl⟩
  have hx' : x < 2 ^ k := lt_more hx (by omega)
  subst hk
  exact quot_DivMod x m w hx' hm h0
theorem modC2 (x m : Nat) (hx : x < 2 ^ 256) (hm : m < 2 ^ 256) (h0 : 0 < m) (w : World) : Calls Try.prog 141 #[.agg (arrK .u64 8 (wd x)), .agg (arrK .u64 4 (wd m))] w fun e w' => e = .returned (.tuple #[.agg (arrK .u64 4 (wd (x % m))), .int .i64 0]) ∧ Below w.heap.size w w' := by
  obtain ⟨k, hk⟩ : ∃ k, k = 64 * 8 := ⟨_, rfl⟩
  exact modC x m k (lt_more hx (by omega)) hk hm h0 w
theorem modC3 (x y m : Nat) (hx : x < 2 ^ 256) (hy : y < 2 ^ 256) (hm : m < 2 ^ 256) (h0 : 0 < m) (w : World) : Calls Try.prog 141 #[.agg (arrK .u64 8 (wd (x * y))), .agg (arrK .u64 4 (wd m))] w fun e w' => e = .returned (.tuple #[.agg (arrK .u64 4 (wd (x * y % m))), .int .i64 0]) ∧ Below w.heap.size w w' := by
  obtain ⟨k, hk⟩ : ∃ k, k = 64 * 8 := ⟨_, rfl⟩
  exact modC (x * y) m k (lt_mul hx hy (by omega)) hk hm h0 w

theorem subGe (a b : Nat) (ha : a < 2 ^ 256) (h : b ≤ a) (w : World) : Calls Try.prog 117 #[.agg (arrK .u64 4 (wd a)), .agg (arrK .u64 4 (wd b))] w fun e w' => e = .returned (.tuple #[.agg (arrK .u64 4 (wd (a - b))), .int .u64 0]) ∧ Below w.heap.size w w' := by
  have hc := limb_Sub a b w ha (by omega)
  rw [(sub_ge ha h).1, (sub_ge ha h).2] at hc
  exact hc
theorem subLt (a b : Nat) (ha : a < 2 ^ 256) (hb : b < 2 ^ 256) (h : a < b) (w : World) : Calls Try.prog 117 #[.agg (arrK .u64 4 (wd a)), .agg (arrK .u64 4 (wd b))] w fun e w' => e = .returned (.tuple #[.agg (arrK .u64 4 (wd (a + 2 ^ 256 - b))), .int .u64 1]) ∧ Below w.heap.size w w' := by
  have hc := limb_Sub a b w ha hb
  rw [(sub_lt h).1, (sub_lt h).2] at hc
  exact hc
theorem addBack (a b m : Nat) (hm : m < 2 ^ 256) (h : a < b) (hb : b < m) (w : World) : Calls Try.prog 115 #[.agg (arrK .u64 4 (wd (a + 2 ^ 256 - b))), .agg (arrK .u64 4 (wd m))] w fun e w' => (∃ c : Nat, e = .returned (.tuple #[.agg (arrK .u64 4 (wd (a + m - b))), .int .u64 c])) ∧ Below w.heap.size w w' := by
  have hc := limb_Add (a + 2 ^ 256 - b) m w (by omega) hm
  rw [add_back hm h hb] at hc
  exact hc.mono fun e w' h => ⟨⟨_, h.1⟩, h.2⟩
/-- The head of Inverse: what Mod left, and its word. -/
theorem inv_head (a m L c : Nat) (w : World) (ha : a < 2 ^ 256) (hmod : ∀ V, Calls Try.prog 141 #[.agg (arrK .u64 8 (wd a)), .agg (arrK .u64 4 (wd m))] V fun e w' => e = .returned (.tuple #[.agg (arrK .u64 4 (wd L)), .int .i64 (c : Int)]) ∧ Below V.heap.size V w')
    (hP : c ≠ 0 → InvP a m 0 c) (hz : c = 0 → 0 < m ∧ m < 2 ^ 256 ∧ L = a % m) :
    Calls Try.prog 118 #[.agg (arrK .u64 4 (wd a)), .agg (arrK .u64 4 (wd m))] w (RetInv a m w) := by
  have hD := iv_start w a m
  have hL : Below w.heap.size w ((((w.alloc (Obj.cells (arrK .u64 4 (wd a)) 27)).alloc (Obj.cells (arrK .u64 4 (wd m)) 27)).alloc (Obj.cells (arrK .u64 4 (wd 0)) 27)).alloc (Obj.cells (arrK .u64 4 (wd 0)) 27)) := by go_grown
  have hW := Lib.hid (fun V => wideC0 a V ha)
  have hM := Lib.hid hmod
  have hz4 := cells4
  have hcl := arrK_cells .u64 4 (wd L)
  rw [← zeroNum] at hD hL
  clear hmod
  go_enter Try.func118, Try.ntmps118
  go_wp2
  generalize (((w.alloc (Obj.cells (arrK .u64 4 (wd a)) 27)).alloc (Obj.cells (arrK .u64 4 (wd m)) 27)).alloc (Obj.cells _ 27)).alloc (Obj.cells _ 27) = W at *
  go_upto_region 2 with (fail)
  have hHD := Lib.hid hD
  have hHL := Lib.hid hL
  clear hD hL
  go_cut [7, 8] (fun v7 v8 wx => ∃ g, v7 = .pointer (some ⟨g, 0, none⟩) ∧ w.heap.size + 4 ≤ g ∧ v8 = .int .i64 (c : Int) ∧ NumAt wx g L ∧ IvAt wx w.heap.size a m ∧ Below w.heap.size w wx)
  case first =>
    rename_i J1 K1 hJ1 hK1
    have hHJ1 := Lib.hid hJ1
    have hHK1 := Lib.hid hK1
    clear hJ1 hK1
    generalize ha0 : Act.mk _ _ = a0
    have e2 : a0.tmps[2]?.getD undef = .pointer (some ⟨w.heap.size, 0, none⟩) := by rw [← ha0]; rfl
    have e3 : a0.tmps[3]?.getD undef = .pointer (some ⟨w.heap.size + 1, 0, none⟩) := by rw [← ha0]; rfl
    have e6 : a0.tmps[6]?.getD undef = .pointer (some ⟨w.heap.size + 1 + 1 + 1, 0, none⟩) := by rw [← ha0]; rfl
    have hz0 : a0.tmps.size = 84 := by rw [← ha0]; rfl
    have hha0 := Lib.hid ha0
    clear ha0
    refine wp_region_fresh ⟨fun jx_ => match jx_ with | 0 => some (.agg (arrK .u64 4 (wd (a)))) | 1 => some (.agg (arrK .u64 4 (wd (0)))) | 2 => some (.agg (arrK .u64 8 (wd (a)))) | 3 => some (.agg (arrK .u64 4 (wd (m)))) | 4 => some (.tuple #[.agg (arrK .u64 4 (wd L)), .int .i64 (c : Int)]) | 5 => some (.tuple #[.agg (arrK .u64 4 (wd L)), .int .i64 (c : Int)]) | 6 => some (.agg (arrK .u64 4 (wd (L)))) | 7 => some (.int .i64 (c : Int)) | 10 => some (.int .i64 (c : Int)) | _ => none, fun jx_ => match jx_ with | 8 => some 4 | _ => none, fun jx_ => match jx_ with | 9 => some 8 | _ => none, fun jx_ => match jx_ with | 9 => arrK .u64 4 (wd L) | _ => #[]⟩ (by kernel_rfl) (by kernel_rfl) (by kernel_rfl) (slotsOk_of hz0 (by kernel_rfl)) rfl ⟨?_, ?_, ?_, ?_, ?_, ?_, ?_, ?_, ?_, ?_, ?_, trivial⟩ ?_
    · refine fstep_val rfl rfl (calm_step rfl fun aa ω κ hb hu hc hK => ?_)
      have h2 : aa.tmps[2]?.getD undef = .pointer (some ⟨w.heap.size, 0, none⟩) := (hu 2 rfl).trans e2
      have hk := Lib.hid (fun w1 (h : Below ω.heap.size ω w1) => hK (.agg (arrK .u64 4 (wd (a)))) w1 rfl h)
      clear hK hu hc
      have hAt := (hHD.out.A).step hb
      have hr1 := hAt.row
      have hr2 := hAt.eq
      clear hAt
      go_simp
      exact hk.out _ (Below.refl _ _)
    · refine fstep_val rfl rfl (calm_step rfl fun aa ω κ hb hu hc hK => ?_)
      have h6 : aa.tmps[6]?.getD undef = .pointer (some ⟨w.heap.size + 1 + 1 + 1, 0, none⟩) := (hu 6 rfl).trans e6
      have hk := Lib.hid (fun w1 (h : Below ω.heap.size ω w1) => hK (.agg (arrK .u64 4 (wd (0)))) w1 rfl h)
      clear hK hu hc
      have hAt := (hHD.out.Z).step hb
      have hr1 := hAt.row
      have hr2 := hAt.eq
      clear hAt
      go_simp
      exact hk.out _ (Below.refl _ _)
    · refine fstep_val rfl rfl (calm_step rfl fun aa ω κ hb hu hc hK => ?_)
      have h21 : aa.tmps[21]?.getD undef = .agg (arrK .u64 4 (wd (a))) := hc 0 21 rfl rfl
      have h22 : aa.tmps[22]?.getD undef = .agg (arrK .u64 4 (wd (0))) := hc 1 22 rfl rfl
      have hk := Lib.hid (fun w1 (h : Below ω.heap.size ω w1) => hK (.agg (arrK .u64 8 (wd (a)))) w1 rfl h)
      clear hK hu hc
      go_simp
      go_at_call 144
      refine (hW.out _).mono ?_
      rintro e w1 ⟨rfl, hb1⟩
      exact hk.out _ hb1
    · refine fstep_val rfl rfl (calm_step rfl fun aa ω κ hb hu hc hK => ?_)
      have h3 : aa.tmps[3]?.getD undef = .pointer (some ⟨w.heap.size + 1, 0, none⟩) := (hu 3 rfl).trans e3
      have hk := Lib.hid (fun w1 (h : Below ω.heap.size ω w1) => hK (.agg (arrK .u64 4 (wd (m)))) w1 rfl h)
      clear hK hu hc
      have hAt := (hHD.out.M).step hb
      have hr1 := hAt.row
      have hr2 := hAt.eq
      clear hAt
      go_simp
      exact hk.out _ (Below.refl _ _)
    · refine fstep_val rfl rfl (calm_step rfl fun aa ω κ hb hu hc hK => ?_)
      have h23 : aa.tmps[23]?.getD undef = .agg (arrK .u64 8 (wd (a))) := hc 2 23 rfl rfl
      have h24 : aa.tmps[24]?.getD undef = .agg (arrK .u64 4 (wd (m))) := hc 3 24 rfl rfl
      have hk := Lib.hid (fun w1 (h : Below ω.heap.size ω w1) => hK (.tuple #[.agg (arrK .u64 4 (wd L)), .int .i64 (c : Int)]) w1 rfl h)
      clear hK hu hc
      go_simp
      go_at_call 141
      refine (hM.out _).mono ?_
      rintro e w1 ⟨rfl, hb1⟩
      exact hk.out _ hb1
    · refine fstep_val rfl rfl (calm_step rfl fun aa ω κ hb hu hc hK => ?_)
      have h25 : aa.tmps[25]?.getD undef = .tuple #[.agg (arrK .u64 4 (wd L)), .int .i64 (c : Int)] := hc 4 25 rfl rfl
      have hk := Lib.hid (fun w1 (h : Below ω.heap.size ω w1) => hK (.tuple #[.agg (arrK .u64 4 (wd L)), .int .i64 (c : Int)]) w1 rfl h)
      clear hK hu hc
      go_simp
      exact hk.out _ (Below.refl _ _)
    · refine fstep_val rfl rfl (calm_step rfl fun aa ω κ hb hu hc hK => ?_)
      have h20 : aa.tmps[20]?.getD undef = .tuple #[.agg (arrK .u64 4 (wd L)), .int .i64 (c : Int)] := hc 5 20 rfl rfl
      have hk := Lib.hid (fun w1 (h : Below ω.heap.size ω w1) => hK (.agg (arrK .u64 4 (wd (L)))) w1 rfl h)
      clear hK hu hc
      go_simp
      exact hk.out _ (Below.refl _ _)
    · refine fstep_val rfl rfl (calm_step rfl fun aa ω κ hb hu hc hK => ?_)
      have h20 : aa.tmps[20]?.getD undef = .tuple #[.agg (arrK .u64 4 (wd L)), .int .i64 (c : Int)] := hc 5 20 rfl rfl
      have hk := Lib.hid (fun w1 (h : Below ω.heap.size ω w1) => hK (.int .i64 (c : Int)) w1 rfl h)
      clear hK hu hc
      go_simp
      exact hk.out _ (Below.refl _ _)
    · refine fstep_al (n := 4) rfl rfl fun aa ω κ hK => ?_
      have hk := Lib.hid hK
      clear hK
      go_simp
      exact hk.out _ _ cells4
    · refine fstep_st (j := 8) (n := 4) (d := 7) rfl rfl rfl rfl rfl hcl.1 rfl rfl fun aa ω κ g hb hu hc hp hr hK => ?_
      have h26 : aa.tmps[26]?.getD undef = .agg (arrK .u64 4 (wd (L))) := hc 6 26 rfl rfl
      have hk := Lib.hid hK
      clear hK hu hc
      have hcc := hcl
      go_simp
      exact hk.out undef
    · refine fstep_val rfl rfl (calm_step rfl fun aa ω κ hb hu hc hK => ?_)
      have h27 : aa.tmps[27]?.getD undef = .int .i64 (c : Int) := hc 7 27 rfl rfl
      have hk := Lib.hid (fun w1 (h : Below ω.heap.size ω w1) => hK (.int .i64 (c : Int)) w1 rfl h)
      clear hK hu hc
      go_simp
      exact hk.out _ (Below.refl _ _)
    · intro a1 w1 G I
      have hK1 := hHK1.out
      go_wp2_with fail
      refine Met.intro (hHJ1.out _ _ ?_)
      have ha0 := hha0.out
      subst ha0
      (repeat apply Exists.intro)
      refine ⟨?_, act_patch (n := 84) [false, false, false, false, false, false, false, true, true, false, false, false, false, false, false, false, false, false, false, false, true, true, true, true, true, true, true, true, false, false, false, false, false, false, false, false, false, false, false, false, false, false, false, false, false, false, false, false, false, false, false, false, false, false, false, false, false, false, false, false, false, false, false, false, false, false, false, false, false, false, false, false, false, false, false, false, false, false, false, false, false, false, false, false] rfl (by kernel_rfl) I.un I.sz I.df⟩
      exact ⟨G 8, I.al 8 7 4 rfl rfl rfl, by have h1 := (I.blk 8 4 rfl rfl).1; have h2 := hHD.out.Z.lt; omega, I.val 10 8 rfl rfl, ⟨(I.blk 8 4 rfl rfl).2, (I.row 9 8 rfl rfl).2.2⟩, hHD.out.step I.bel, below_step I.bel hHL.out (Nat.le_refl _)⟩
  case rest =>
    obtain ⟨g, rfl, hg, hv8, hN, hD, hL⟩ := hcut
    have hRm := hD.M.row
    have hrm := hD.M.eq
    have hRz := hD.Z.row
    have hrz := hD.Z.eq
    have hO := hD.O
    have hc0 := arrK_cells .u64 4 (wd 0)
    by_cases hc : c = 0
    · subst hc
      replace hv8 := hv8.trans (show _ = Value.int .i64 0 from rfl)
      subst hv8
      obtain ⟨hm0, hm, hLe⟩ := hz rfl
      have heq := fun V => eqlNum hm (show 1 < 2 ^ 256 by omega) V
      rw [← oneNum] at heq
      by_cases hm1 : m = 1
      · rw [decide_eq_true hm1] at heq
        have hI : InvP a m 0 0 := by rw [hm1]; exact inv_one a
        have hHI := Lib.hid hI
        clear hI hm1 hLe hP hz
        go_wp2
        exact ret_stored2 (p := 4) (q := 5) (ty := 27) (g := w.heap.size + 1 + 1) (n := 4) (c := arrK .u64 4 (wd 0)) rfl Try.underlying27 rfl (by kernel_rfl) rfl hO hc0.1 rfl ⟨0, 0, rfl, hHI.out, by omega, below_setRow hL (by omega)⟩
      · rw [decide_eq_false hm1] at heq
        have hHle := Lib.hid hLe
        clear hLe hP hz
        clear hHD hHL
        have hHD := Lib.hid hD
        have hHL := Lib.hid hL
        have hHN := Lib.hid hN
        have hcm := arrK_cells .u64 4 (wd m)
        have hc1 := arrK_cells .u64 4 (wd 1)
        rw [← oneNum] at hc1
        go_upto_region 7 with (fail)
        clear hD hL hN hRm hrm hRz hrz hO
        go_cut [9, 10, 11, 12] (fun v9 v10 v11 v12 wx => ∃ g0 g1 h0 h1, (v9 = .pointer (some ⟨g0, 0, none⟩) ∧ v10 = .pointer (some ⟨g1, 0, none⟩) ∧ v11 = .pointer (some ⟨h0, 0, none⟩) ∧ v12 = .pointer (some ⟨h1, 0, none⟩)) ∧ IvB wx w.heap.size g0 g1 h0 h1 m L 0 1 ∧ IvAt wx w.heap.size a m ∧ Below w.heap.size w wx)
        case first =>
          rename_i J1 K1 hJ1 hK1
          have hHJ1 := Lib.hid hJ1
          have hHK1 := Lib.hid hK1
          clear hJ1 hK1
          generalize ha0 : Act.mk _ _ = a0
          have e3 : a0.tmps[3]?.getD undef = .pointer (some ⟨w.heap.size + 1, 0, none⟩) := by rw [← ha0]; rfl
          have e6 : a0.tmps[6]?.getD undef = .pointer (some ⟨w.heap.size + 1 + 1 + 1, 0, none⟩) := by rw [← ha0]; rfl
          have e7 : a0.tmps[7]?.getD undef = .pointer (some ⟨g, 0, none⟩) := by rw [← ha0]; rfl
          have hz0 : a0.tmps.size = 84 := by rw [← ha0]; rfl
          have hha0 := Lib.hid ha0
          clear ha0
          refine wp_region_fresh ⟨fun jx_ => match jx_ with | 0 => some (.agg (arrK .u64 4 (wd (m)))) | 1 => some (.agg (arrK .u64 4 (wd (L)))) | 2 => some (.agg (arrK .u64 4 (wd (0)))) | 3 => some (.agg #[Value.int IntKind.u64 1, Value.int IntKind.u64 0, Value.int IntKind.u64 0, Value.int IntKind.u64 0]) | _ => none, fun jx_ => match jx_ with | 4 => some 4 | 5 => some 4 | 6 => some 4 | 7 => some 4 | _ => none, fun jx_ => match jx_ with | 8 => some 4 | 9 => some 5 | 10 => some 6 | 11 => some 7 | _ => none, fun jx_ => match jx_ with | 8 => arrK .u64 4 (wd m) | 9 => arrK .u64 4 (wd L) | 10 => arrK .u64 4 (wd 0) | 11 => #[Value.int IntKind.u64 1, Value.int IntKind.u64 0, Value.int IntKind.u64 0, Value.int IntKind.u64 0] | _ => #[]⟩ (by kernel_rfl) (by kernel_rfl) (by kernel_rfl) (slotsOk_of hz0 (by kernel_rfl)) rfl ⟨?_, ?_, ?_, ?_, ?_, ?_, ?_, ?_, ?_, ?_, ?_, ?_, trivial⟩ ?_
          · refine fstep_val rfl rfl (calm_step rfl fun aa ω κ hb hu hc hK => ?_)
            have h3 : aa.tmps[3]?.getD undef = .pointer (some ⟨w.heap.size + 1, 0, none⟩) := (hu 3 rfl).trans e3
            have hk := Lib.hid (fun w1 (h : Below ω.heap.size ω w1) => hK (.agg (arrK .u64 4 (wd (m)))) w1 rfl h)
            clear hK hu hc
            have hAt := (hHD.out.M).step hb
            have hr1 := hAt.row
            have hr2 := hAt.eq
            clear hAt
            go_simp
            exact hk.out _ (Below.refl _ _)
          · refine fstep_val rfl rfl (calm_step rfl fun aa ω κ hb hu hc hK => ?_)
            have h7 : aa.tmps[7]?.getD undef = .pointer (some ⟨g, 0, none⟩) := (hu 7 rfl).trans e7
            have hk := Lib.hid (fun w1 (h : Below ω.heap.size ω w1) => hK (.agg (arrK .u64 4 (wd (L)))) w1 rfl h)
            clear hK hu hc
            have hAt := (hHN.out).step hb
            have hr1 := hAt.row
            have hr2 := hAt.eq
            clear hAt
            go_simp
            exact hk.out _ (Below.refl _ _)
          · refine fstep_val rfl rfl (calm_step rfl fun aa ω κ hb hu hc hK => ?_)
            have h6 : aa.tmps[6]?.getD undef = .pointer (some ⟨w.heap.size + 1 + 1 + 1, 0, none⟩) := (hu 6 rfl).trans e6
            have hk := Lib.hid (fun w1 (h : Below ω.heap.size ω w1) => hK (.agg (arrK .u64 4 (wd (0)))) w1 rfl h)
            clear hK hu hc
            have hAt := (hHD.out.Z).step hb
            have hr1 := hAt.row
            have hr2 := hAt.eq
            clear hAt
            go_simp
            exact hk.out _ (Below.refl _ _)
          · refine fstep_val rfl rfl (calm_step rfl fun aa ω κ hb hu hc hK => ?_)
            have hk := Lib.hid (fun w1 (h : Below ω.heap.size ω w1) => hK (.agg #[Value.int IntKind.u64 1, Value.int IntKind.u64 0, Value.int IntKind.u64 0, Value.int IntKind.u64 0]) w1 rfl h)
            clear hK hu hc
            go_simp
            exact hk.out _ (Below.refl _ _)
          · refine fstep_al (n := 4) rfl rfl fun aa ω κ hK => ?_
            have hk := Lib.hid hK
            clear hK
            go_simp
            exact hk.out _ _ cells4
          · refine fstep_al (n := 4) rfl rfl fun aa ω κ hK => ?_
            have hk := Lib.hid hK
            clear hK
            go_simp
            exact hk.out _ _ cells4
          · refine fstep_al (n := 4) rfl rfl fun aa ω κ hK => ?_
            have hk := Lib.hid hK
            clear hK
            go_simp
            exact hk.out _ _ cells4
          · refine fstep_al (n := 4) rfl rfl fun aa ω κ hK => ?_
            have hk := Lib.hid hK
            clear hK
            go_simp
            exact hk.out _ _ cells4
          · refine fstep_st (j := 4) (n := 4) (d := 9) rfl rfl rfl rfl rfl hcm.1 rfl rfl fun aa ω κ g hb hu hc hp hr hK => ?_
            have h36 : aa.tmps[36]?.getD undef = .agg (arrK .u64 4 (wd (m))) := hc 0 36 rfl rfl
            have hk := Lib.hid hK
            clear hK hu hc
            have hcc := hcm
            go_simp
            exact hk.out undef
          · refine fstep_st (j := 5) (n := 4) (d := 10) rfl rfl rfl rfl rfl hcl.1 rfl rfl fun aa ω κ g hb hu hc hp hr hK => ?_
            have h37 : aa.tmps[37]?.getD undef = .agg (arrK .u64 4 (wd (L))) := hc 1 37 rfl rfl
            have hk := Lib.hid hK
            clear hK hu hc
            have hcc := hcl
            go_simp
            exact hk.out undef
          · refine fstep_st (j := 6) (n := 4) (d := 11) rfl rfl rfl rfl rfl hc0.1 rfl rfl fun aa ω κ g hb hu hc hp hr hK => ?_
            have h38 : aa.tmps[38]?.getD undef = .agg (arrK .u64 4 (wd (0))) := hc 2 38 rfl rfl
            have hk := Lib.hid hK
            clear hK hu hc
            have hcc := hc0
            go_simp
            exact hk.out undef
          · refine fstep_st (j := 7) (n := 4) (d := 12) rfl rfl rfl rfl rfl hc1.1 rfl rfl fun aa ω κ g hb hu hc hp hr hK => ?_
            have h39 : aa.tmps[39]?.getD undef = .agg #[Value.int IntKind.u64 1, Value.int IntKind.u64 0, Value.int IntKind.u64 0, Value.int IntKind.u64 0] := hc 3 39 rfl rfl
            have hk := Lib.hid hK
            clear hK hu hc
            have hcc := hc1
            go_simp
            exact hk.out undef
          · intro a1 w1 G I
            have hK1 := hHK1.out
            go_wp2_with fail
            refine Met.intro (hHJ1.out _ _ ?_)
            have ha0 := hha0.out
            subst ha0
            (repeat apply Exists.intro)
            refine ⟨?_, act_patch (n := 84) [false, false, false, false, false, false, false, false, false, true, true, true, true, false, false, false, false, false, false, false, false, false, false, false, false, false, false, false, false, false, false, false, false, false, false, false, true, true, true, true, false, false, false, false, false, false, false, false, false, false, false, false, false, false, false, false, false, false, false, false, false, false, false, false, false, false, false, false, false, false, false, false, false, false, false, false, false, false, false, false, false, false, false, false] rfl (by kernel_rfl) I.un I.sz I.df⟩
            exact ⟨G 4, G 5, G 6, G 7, ⟨I.al 4 9 4 rfl rfl rfl, I.al 5 10 4 rfl rfl rfl, I.al 6 11 4 rfl rfl rfl, I.al 7 12 4 rfl rfl rfl⟩, ivB_of (by have := hHD.out.Z.lt; omega) (I.blk 4 4 rfl rfl) (I.blk 5 4 rfl rfl) (I.blk 6 4 rfl rfl) (I.blk 7 4 rfl rfl) (I.row 8 4 rfl rfl).2.2 (I.row 9 5 rfl rfl).2.2 (I.row 10 6 rfl rfl).2.2 ((I.row 11 7 rfl rfl).2.2.trans oneNum)
          (I.ne 4 5 4 4 rfl rfl rfl rfl (by decide)) (I.ne 4 6 4 4 rfl rfl rfl rfl (by decide)) (I.ne 4 7 4 4 rfl rfl rfl rfl (by decide)) (I.ne 5 6 4 4 rfl rfl rfl rfl (by decide)) (I.ne 5 7 4 4 rfl rfl rfl rfl (by decide)) (I.ne 6 7 4 4 rfl rfl rfl rfl (by decide)), hHD.out.step I.bel, below_step I.bel hHL.out (Nat.le_refl _)⟩
        case rest =>
          obtain ⟨g0, g1, h0, h1, ⟨rfl, rfl, rfl, rfl⟩, hB, hD, hL⟩ := hcut
          clear hHD hHL hHN
          have hI := Lib.hid (hHle.out ▸ IvI.start (a := a) (m := m) (by omega))
          have hLlt : L < 2 ^ 256 := by rw [hHle.out]; exact Nat.lt_trans (Nat.mod_lt _ hm0) hm
          clear hHle
          go_wp2
          go_loopw [] (fun wr => ∃ r0 r1 s0 s1 : Nat, IvB wr w.heap.size g0 g1 h0 h1 r0 r1 s0 s1 ∧ IvAt wr w.heap.size a m ∧ Below w.heap.size w wr ∧ r0 < 2 ^ 256 ∧ r1 < 2 ^ 256 ∧ Hid (IvI a m r0 r1 s0 s1)) (fun wr => numIn wr g1)
          case atStart => exact ⟨m, L, 0, 1, hB, hD, hL, hm, hLlt, hI⟩
          case round =>
            clear hB hD hL hI hLlt
            obtain ⟨r0, r1, s0, s1, hB, hD, hL, hr0, hr1, hI⟩ := hrel
            have hs0 : s0 < 2 ^ 256 := Nat.lt_trans hI.out.l0 hm
            have hs1 : s1 < 2 ^ 256 := Nat.lt_trans hI.out.l1 hm
            have hRb := hB.R1.row
            have hrb := hB.R1.eq
            have hRz := hD.Z.row
            have hrz := hD.Z.eq
            have hne := fun V => neqNum hr1 (show 0 < 2 ^ 256 by omega) V
            by_cases h1z : r1 = 0
            · rw [decide_eq_true h1z] at hne
              have hRa := hB.R0.row
              have hra := hB.R0.eq
              have hRs := hB.S0.row
              have hrs := hB.S0.eq
              have hO := hD.O
              have hcs := arrK_cells .u64 4 (wd s0)
              have hne1 := fun V => neqNum hr0 (show 1 < 2 ^ 256 by omega) V
              rw [← oneNum] at hne1
              by_cases h01 : r0 = 1
              · rw [decide_eq_true h01] at hne1
                have hP := Lib.hid (by have := hI.out; rw [h01, h1z] at this; exact this.some : InvP a m s0 0)
                clear h1z h01 hI
                go_wp2
                exact ret_stored2 (p := 4) (q := 5) (ty := 27) (g := w.heap.size + 1 + 1) (n := 4) (c := arrK .u64 4 (wd s0)) rfl Try.underlying27 rfl (by kernel_rfl) rfl hO hcs.1 rfl ⟨s0, 0, rfl, hP.out, hs0, below_setRow hL (by omega)⟩
              · rw [decide_eq_false h01] at hne1
                have hP := Lib.hid (by have := hI.out; rw [h1z] at this; exact this.none h01 : InvP a m 0 6)
                clear h1z h01 hI
                go_wp2
                exact ret_stored2 (p := 4) (q := 5) (ty := 27) (g := w.heap.size + 1 + 1) (n := 4) (c := arrK .u64 4 (wd 0)) rfl Try.underlying27 rfl (by kernel_rfl) rfl hO hc0.1 rfl ⟨0, 6, rfl, hP.out, by omega, below_setRow hL (by omega)⟩
            · rw [decide_eq_false h1z] at hne
              have hHB := Lib.hid hB
              have hHD := Lib.hid hD
              have hHL := Lib.hid hL
              have hWr := Lib.hid (fun V => wideC0 r0 V hr0)
              have hDM := Lib.hid (divC r0 r1 hr0 hr1 h1z)
              have hI2 := Lib.hid hI.out.next
              have hHI0 := hI
              have hHBr := hHB
              have hQ : r0 / r1 < 2 ^ 256 := Nat.lt_of_le_of_lt (Nat.div_le_self _ _) hr0
              have hR : r0 % r1 < 2 ^ 256 := Nat.lt_trans (Nat.mod_lt _ (by omega)) hr1
              have hms : Hid (r0 % r1 < r1) := Lib.hid (Nat.mod_lt _ (by omega))
              have hoff := Nat.mod_lt (r0 / r1 * s1) hm0
              generalize hqe : r0 / r1 = q at *
              generalize hre : r0 % r1 = r at *
              clear hqe hre hI
              have hcq := arrK_cells .u64 8 (wd q)
              have hcr := arrK_cells .u64 4 (wd r)
              go_upto_region 9 with (fail)
              clear hB hD hL
              go_cut [13, 14, 15] from 40 to 78 (fun v13 v14 v15 wx => ∃ gq gr, (v13 = .pointer (some ⟨gq, 0, none⟩) ∧ v14 = .pointer (some ⟨gr, 0, none⟩) ∧ v15 = .int .i64 0) ∧ (w.heap.size + 4 ≤ gq ∧ IvF g0 g1 h0 h1 gr) ∧ At wx gq .u64 8 (wd q) ∧ NumAt wx gr r ∧ IvB wx w.heap.size g0 g1 h0 h1 r0 r1 s0 s1 ∧ IvAt wx w.heap.size a m ∧ Below w.heap.size w wx)
              case first =>
                rename_i J1 K1 hJ1 hK1
                have hHJ1 := Lib.hid hJ1
                have hHK1 := Lib.hid hK1
                clear hJ1 hK1
                generalize ha0 : Act.mk _ _ = a0
                have e6 : a0.tmps[6]?.getD undef = .pointer (some ⟨w.heap.size + 1 + 1 + 1, 0, none⟩) := by rw [← ha0]; rfl
                have e9 : a0.tmps[9]?.getD undef = .pointer (some ⟨g0, 0, none⟩) := by rw [← ha0]; rfl
                have e10 : a0.tmps[10]?.getD undef = .pointer (some ⟨g1, 0, none⟩) := by rw [← ha0]; rfl
                have hz0 : a0.tmps.size = 84 := by rw [← ha0]; rfl
                have hha0 := Lib.hid ha0
                clear ha0
                refine wp_region_fresh ⟨fun jx_ => match jx_ with | 0 => some (.agg (arrK .u64 4 (wd (r0)))) | 1 => some (.agg (arrK .u64 4 (wd (0)))) | 2 => some (.agg (arrK .u64 8 (wd (r0)))) | 3 => some (.agg (arrK .u64 4 (wd (r1)))) | 4 => some (.tuple #[.agg (arrK .u64 8 (wd q)), .agg (arrK .u64 4 (wd r)), .int .i64 0]) | 5 => some (.tuple #[.agg (arrK .u64 8 (wd q)), .agg (arrK .u64 4 (wd r)), .int .i64 0]) | 6 => some (.agg (arrK .u64 8 (wd (q)))) | 7 => some (.agg (arrK .u64 4 (wd (r)))) | 8 => some (.int .i64 0) | 13 => some (.int .i64 0) | _ => none, fun jx_ => match jx_ with | 9 => some 8 | 10 => some 4 | _ => none, fun jx_ => match jx_ with | 11 => some 9 | 12 => some 10 | _ => none, fun jx_ => match jx_ with | 11 => arrK .u64 8 (wd q) | 12 => arrK .u64 4 (wd r) | _ => #[]⟩ (by kernel_rfl) (by kernel_rfl) (by kernel_rfl) (slotsOk_of hz0 (by kernel_rfl)) rfl ⟨?_, ?_, ?_, ?_, ?_, ?_, ?_, ?_, ?_, ?_, ?_, ?_, ?_, ?_, trivial⟩ ?_
                · refine fstep_val rfl rfl (calm_step rfl fun aa ω κ hb hu hc hK => ?_)
                  have h9 : aa.tmps[9]?.getD undef = .pointer (some ⟨g0, 0, none⟩) := (hu 9 rfl).trans e9
                  have hk := Lib.hid (fun w1 (h : Below ω.heap.size ω w1) => hK (.agg (arrK .u64 4 (wd (r0)))) w1 rfl h)
                  clear hK hu hc
                  have hAt := (hHB.out.R0).step hb
                  have hr1 := hAt.row
                  have hr2 := hAt.eq
                  clear hAt
                  go_simp
                  exact hk.out _ (Below.refl _ _)
                · refine fstep_val rfl rfl (calm_step rfl fun aa ω κ hb hu hc hK => ?_)
                  have h6 : aa.tmps[6]?.getD undef = .pointer (some ⟨w.heap.size + 1 + 1 + 1, 0, none⟩) := (hu 6 rfl).trans e6
                  have hk := Lib.hid (fun w1 (h : Below ω.heap.size ω w1) => hK (.agg (arrK .u64 4 (wd (0)))) w1 rfl h)
                  clear hK hu hc
                  have hAt := (hHD.out.Z).step hb
                  have hr1 := hAt.row
                  have hr2 := hAt.eq
                  clear hAt
                  go_simp
                  exact hk.out _ (Below.refl _ _)
                · refine fstep_val rfl rfl (calm_step rfl fun aa ω κ hb hu hc hK => ?_)
                  have h44 : aa.tmps[44]?.getD undef = .agg (arrK .u64 4 (wd (r0))) := hc 0 44 rfl rfl
                  have h45 : aa.tmps[45]?.getD undef = .agg (arrK .u64 4 (wd (0))) := hc 1 45 rfl rfl
                  have hk := Lib.hid (fun w1 (h : Below ω.heap.size ω w1) => hK (.agg (arrK .u64 8 (wd (r0)))) w1 rfl h)
                  clear hK hu hc
                  go_simp
                  go_at_call 144
                  refine (hWr.out _).mono ?_
                  rintro e w1 ⟨rfl, hb1⟩
                  exact hk.out _ hb1
                · refine fstep_val rfl rfl (calm_step rfl fun aa ω κ hb hu hc hK => ?_)
                  have h10 : aa.tmps[10]?.getD undef = .pointer (some ⟨g1, 0, none⟩) := (hu 10 rfl).trans e10
                  have hk := Lib.hid (fun w1 (h : Below ω.heap.size ω w1) => hK (.agg (arrK .u64 4 (wd (r1)))) w1 rfl h)
                  clear hK hu hc
                  have hAt := (hHB.out.R1).step hb
                  have hr1 := hAt.row
                  have hr2 := hAt.eq
                  clear hAt
                  go_simp
                  exact hk.out _ (Below.refl _ _)
                · refine fstep_val rfl rfl (calm_step rfl fun aa ω κ hb hu hc hK => ?_)
                  have h46 : aa.tmps[46]?.getD undef = .agg (arrK .u64 8 (wd (r0))) := hc 2 46 rfl rfl
                  have h47 : aa.tmps[47]?.getD undef = .agg (arrK .u64 4 (wd (r1))) := hc 3 47 rfl rfl
                  have hk := Lib.hid (fun w1 (h : Below ω.heap.size ω w1) => hK (.tuple #[.agg (arrK .u64 8 (wd q)), .agg (arrK .u64 4 (wd r)), .int .i64 0]) w1 rfl h)
                  clear hK hu hc
                  go_simp
                  go_at_call 146
                  refine (hDM.out _).mono ?_
                  rintro e w1 ⟨rfl, hb1⟩
                  exact hk.out _ hb1
                · refine fstep_val rfl rfl (calm_step rfl fun aa ω κ hb hu hc hK => ?_)
                  have h48 : aa.tmps[48]?.getD undef = .tuple #[.agg (arrK .u64 8 (wd q)), .agg (arrK .u64 4 (wd r)), .int .i64 0] := hc 4 48 rfl rfl
                  have hk := Lib.hid (fun w1 (h : Below ω.heap.size ω w1) => hK (.tuple #[.agg (arrK .u64 8 (wd q)), .agg (arrK .u64 4 (wd r)), .int .i64 0]) w1 rfl h)
                  clear hK hu hc
                  go_simp
                  exact hk.out _ (Below.refl _ _)
                · refine fstep_val rfl rfl (calm_step rfl fun aa ω κ hb hu hc hK => ?_)
                  have h43 : aa.tmps[43]?.getD undef = .tuple #[.agg (arrK .u64 8 (wd q)), .agg (arrK .u64 4 (wd r)), .int .i64 0] := hc 5 43 rfl rfl
                  have hk := Lib.hid (fun w1 (h : Below ω.heap.size ω w1) => hK (.agg (arrK .u64 8 (wd (q)))) w1 rfl h)
                  clear hK hu hc
                  go_simp
                  exact hk.out _ (Below.refl _ _)
                · refine fstep_val rfl rfl (calm_step rfl fun aa ω κ hb hu hc hK => ?_)
                  have h43 : aa.tmps[43]?.getD undef = .tuple #[.agg (arrK .u64 8 (wd q)), .agg (arrK .u64 4 (wd r)), .int .i64 0] := hc 5 43 rfl rfl
                  have hk := Lib.hid (fun w1 (h : Below ω.heap.size ω w1) => hK (.agg (arrK .u64 4 (wd (r)))) w1 rfl h)
                  clear hK hu hc
                  go_simp
                  exact hk.out _ (Below.refl _ _)
                · refine fstep_val rfl rfl (calm_step rfl fun aa ω κ hb hu hc hK => ?_)
                  have h43 : aa.tmps[43]?.getD undef = .tuple #[.agg (arrK .u64 8 (wd q)), .agg (arrK .u64 4 (wd r)), .int .i64 0] := hc 5 43 rfl rfl
                  have hk := Lib.hid (fun w1 (h : Below ω.heap.size ω w1) => hK (.int .i64 0) w1 rfl h)
                  clear hK hu hc
                  go_simp
                  exact hk.out _ (Below.refl _ _)
                · refine fstep_al (n := 8) rfl rfl fun aa ω κ hK => ?_
                  have hk := Lib.hid hK
                  clear hK
                  go_simp
                  exact hk.out _ _ cells8
                · refine fstep_al (n := 4) rfl rfl fun aa ω κ hK => ?_
                  have hk := Lib.hid hK
                  clear hK
                  go_simp
                  exact hk.out _ _ cells4
                · refine fstep_st (j := 9) (n := 8) (d := 13) rfl rfl rfl rfl rfl hcq.1 rfl rfl fun aa ω κ g hb hu hc hp hr hK => ?_
                  have h49 : aa.tmps[49]?.getD undef = .agg (arrK .u64 8 (wd (q))) := hc 6 49 rfl rfl
                  have hk := Lib.hid hK
                  clear hK hu hc
                  have hcc := hcq
                  go_simp
                  exact hk.out undef
                · refine fstep_st (j := 10) (n := 4) (d := 14) rfl rfl rfl rfl rfl hcr.1 rfl rfl fun aa ω κ g hb hu hc hp hr hK => ?_
                  have h50 : aa.tmps[50]?.getD undef = .agg (arrK .u64 4 (wd (r))) := hc 7 50 rfl rfl
                  have hk := Lib.hid hK
                  clear hK hu hc
                  have hcc := hcr
                  go_simp
                  exact hk.out undef
                · refine fstep_val rfl rfl (calm_step rfl fun aa ω κ hb hu hc hK => ?_)
                  have h51 : aa.tmps[51]?.getD undef = .int .i64 0 := hc 8 51 rfl rfl
                  have hk := Lib.hid (fun w1 (h : Below ω.heap.size ω w1) => hK (.int .i64 0) w1 rfl h)
                  clear hK hu hc
                  go_simp
                  exact hk.out _ (Below.refl _ _)
                · intro a1 w1 G I
                  have hK1 := hHK1.out
                  go_wp2_with fail
                  refine Met.intro (hHJ1.out _ _ ?_)
                  have ha0 := hha0.out
                  subst ha0
                  (repeat apply Exists.intro)
                  refine ⟨?_, act_patch (n := 84) [false, false, false, false, false, false, false, false, false, false, false, false, false, true, true, true, false, false, false, false, false, false, false, false, false, false, false, false, false, false, false, false, false, false, false, false, false, false, false, false, false, false, false, true, true, true, true, true, true, true, true, true, false, false, false, false, false, false, false, false, false, false, false, false, false, false, false, false, false, false, false, false, false, false, false, false, false, false, false, false, false, false, false, false] rfl (by kernel_rfl) I.un I.sz I.df⟩
                  exact ⟨G 9, G 10, ⟨I.al 9 13 8 rfl rfl rfl, I.al 10 14 4 rfl rfl rfl, I.val 13 15 rfl rfl⟩, ⟨by have h1 := (I.blk 9 8 rfl rfl).1; have h2 := hHD.out.Z.lt; omega, ivF_of hHB.out (I.blk 10 4 rfl rfl).1⟩, ⟨(I.blk 9 8 rfl rfl).2, (I.row 11 9 rfl rfl).2.2⟩, ⟨(I.blk 10 4 rfl rfl).2, (I.row 12 10 rfl rfl).2.2⟩, hHB.out.step I.bel, hHD.out.step I.bel, below_step I.bel hHL.out (Nat.le_refl _)⟩
              case rest =>
                obtain ⟨gq, gr, ⟨rfl, rfl, rfl⟩, ⟨hgq, hgr⟩, hQv, hRv, hB, hD, hL⟩ := hcut
                have hHB := Lib.hid hB
                have hHD := Lib.hid hD
                have hHL := Lib.hid hL
                have hHQ := Lib.hid hQv
                have hHR := Lib.hid hRv
                have hlow := Lib.hid (lowC q hQ)
                have hmul := Lib.hid (mulC q s1 hQ hs1)
                have hmod := Lib.hid (modC3 q s1 m hQ hs1 hm hm0)
                generalize hof : q * s1 % m = off at *
                have hHof := Lib.hid hof
                clear hof
                have hco := arrK_cells .u64 4 (wd off)
                go_upto_region 10 with (fail)
                clear hB hD hL hQv hRv
                go_cut [16, 17] from 40 to 78 (fun v16 v17 wx => ∃ go, (v16 = .pointer (some ⟨go, 0, none⟩) ∧ v17 = .int .i64 0) ∧ w.heap.size + 4 ≤ go ∧ NumAt wx go off ∧ At wx gq .u64 8 (wd q) ∧ NumAt wx gr r ∧ IvB wx w.heap.size g0 g1 h0 h1 r0 r1 s0 s1 ∧ IvAt wx w.heap.size a m ∧ Below w.heap.size w wx)
                case first =>
                  rename_i J1 K1 hJ1 hK1
                  have hHJ1 := Lib.hid hJ1
                  have hHK1 := Lib.hid hK1
                  clear hJ1 hK1
                  generalize ha0 : Act.mk _ _ = a0
                  have e3 : a0.tmps[3]?.getD undef = .pointer (some ⟨w.heap.size + 1, 0, none⟩) := by rw [← ha0]; rfl
                  have e12 : a0.tmps[12]?.getD undef = .pointer (some ⟨h1, 0, none⟩) := by rw [← ha0]; rfl
                  have e13 : a0.tmps[13]?.getD undef = .pointer (some ⟨gq, 0, none⟩) := by rw [← ha0]; rfl
                  have hz0 : a0.tmps.size = 84 := by rw [← ha0]; rfl
                  have hha0 := Lib.hid ha0
                  clear ha0
                  refine wp_region_fresh ⟨fun jx_ => match jx_ with | 0 => some (.agg (arrK .u64 8 (wd (q)))) | 1 => some (.agg (arrK .u64 4 (wd (q)))) | 2 => some (.agg (arrK .u64 4 (wd (s1)))) | 3 => some (.agg (arrK .u64 8 (wd (q * s1)))) | 4 => some (.agg (arrK .u64 4 (wd (m)))) | 5 => some (.tuple #[.agg (arrK .u64 4 (wd off)), .int .i64 0]) | 6 => some (.tuple #[.agg (arrK .u64 4 (wd off)), .int .i64 0]) | 7 => some (.agg (arrK .u64 4 (wd (off)))) | 8 => some (.int .i64 0) | 11 => some (.int .i64 0) | _ => none, fun jx_ => match jx_ with | 9 => some 4 | _ => none, fun jx_ => match jx_ with | 10 => some 9 | _ => none, fun jx_ => match jx_ with | 10 => arrK .u64 4 (wd off) | _ => #[]⟩ (by kernel_rfl) (by kernel_rfl) (by kernel_rfl) (slotsOk_of hz0 (by kernel_rfl)) rfl ⟨?_, ?_, ?_, ?_, ?_, ?_, ?_, ?_, ?_, ?_, ?_, ?_, trivial⟩ ?_
                  · refine fstep_val rfl rfl (calm_step rfl fun aa ω κ hb hu hc hK => ?_)
                    have h13 : aa.tmps[13]?.getD undef = .pointer (some ⟨gq, 0, none⟩) := (hu 13 rfl).trans e13
                    have hk := Lib.hid (fun w1 (h : Below ω.heap.size ω w1) => hK (.agg (arrK .u64 8 (wd (q)))) w1 rfl h)
                    clear hK hu hc
                    have hAt := (hHQ.out).step hb
                    have hr1 := hAt.row
                    have hr2 := hAt.eq
                    clear hAt
                    go_simp
                    exact hk.out _ (Below.refl _ _)
                  · refine fstep_val rfl rfl (calm_step rfl fun aa ω κ hb hu hc hK => ?_)
                    have h53 : aa.tmps[53]?.getD undef = .agg (arrK .u64 8 (wd (q))) := hc 0 53 rfl rfl
                    have hk := Lib.hid (fun w1 (h : Below ω.heap.size ω w1) => hK (.agg (arrK .u64 4 (wd (q)))) w1 rfl h)
                    clear hK hu hc
                    go_simp
                    go_at_call 147
                    refine (hlow.out _).mono ?_
                    rintro e w1 ⟨rfl, hb1⟩
                    exact hk.out _ hb1
                  · refine fstep_val rfl rfl (calm_step rfl fun aa ω κ hb hu hc hK => ?_)
                    have h12 : aa.tmps[12]?.getD undef = .pointer (some ⟨h1, 0, none⟩) := (hu 12 rfl).trans e12
                    have hk := Lib.hid (fun w1 (h : Below ω.heap.size ω w1) => hK (.agg (arrK .u64 4 (wd (s1)))) w1 rfl h)
                    clear hK hu hc
                    have hAt := (hHB.out.S1).step hb
                    have hr1 := hAt.row
                    have hr2 := hAt.eq
                    clear hAt
                    go_simp
                    exact hk.out _ (Below.refl _ _)
                  · refine fstep_val rfl rfl (calm_step rfl fun aa ω κ hb hu hc hK => ?_)
                    have h54 : aa.tmps[54]?.getD undef = .agg (arrK .u64 4 (wd (q))) := hc 1 54 rfl rfl
                    have h55 : aa.tmps[55]?.getD undef = .agg (arrK .u64 4 (wd (s1))) := hc 2 55 rfl rfl
                    have hk := Lib.hid (fun w1 (h : Below ω.heap.size ω w1) => hK (.agg (arrK .u64 8 (wd (q * s1)))) w1 rfl h)
                    clear hK hu hc
                    go_simp
                    go_at_call 114
                    refine (hmul.out _).mono ?_
                    rintro e w1 ⟨rfl, hb1⟩
                    exact hk.out _ hb1
                  · refine fstep_val rfl rfl (calm_step rfl fun aa ω κ hb hu hc hK => ?_)
                    have h3 : aa.tmps[3]?.getD undef = .pointer (some ⟨w.heap.size + 1, 0, none⟩) := (hu 3 rfl).trans e3
                    have hk := Lib.hid (fun w1 (h : Below ω.heap.size ω w1) => hK (.agg (arrK .u64 4 (wd (m)))) w1 rfl h)
                    clear hK hu hc
                    have hAt := (hHD.out.M).step hb
                    have hr1 := hAt.row
                    have hr2 := hAt.eq
                    clear hAt
                    go_simp
                    exact hk.out _ (Below.refl _ _)
                  · refine fstep_val rfl rfl (calm_step rfl fun aa ω κ hb hu hc hK => ?_)
                    have h56 : aa.tmps[56]?.getD undef = .agg (arrK .u64 8 (wd (q * s1))) := hc 3 56 rfl rfl
                    have h57 : aa.tmps[57]?.getD undef = .agg (arrK .u64 4 (wd (m))) := hc 4 57 rfl rfl
                    have hk := Lib.hid (fun w1 (h : Below ω.heap.size ω w1) => hK (.tuple #[.agg (arrK .u64 4 (wd off)), .int .i64 0]) w1 rfl h)
                    clear hK hu hc
                    go_simp
                    go_at_call 141
                    refine (hmod.out _).mono ?_
                    rintro e w1 ⟨rfl, hb1⟩
                    exact hk.out _ hb1
                  · refine fstep_val rfl rfl (calm_step rfl fun aa ω κ hb hu hc hK => ?_)
                    have h58 : aa.tmps[58]?.getD undef = .tuple #[.agg (arrK .u64 4 (wd off)), .int .i64 0] := hc 5 58 rfl rfl
                    have hk := Lib.hid (fun w1 (h : Below ω.heap.size ω w1) => hK (.tuple #[.agg (arrK .u64 4 (wd off)), .int .i64 0]) w1 rfl h)
                    clear hK hu hc
                    go_simp
                    exact hk.out _ (Below.refl _ _)
                  · refine fstep_val rfl rfl (calm_step rfl fun aa ω κ hb hu hc hK => ?_)
                    have h52 : aa.tmps[52]?.getD undef = .tuple #[.agg (arrK .u64 4 (wd off)), .int .i64 0] := hc 6 52 rfl rfl
                    have hk := Lib.hid (fun w1 (h : Below ω.heap.size ω w1) => hK (.agg (arrK .u64 4 (wd (off)))) w1 rfl h)
                    clear hK hu hc
                    go_simp
                    exact hk.out _ (Below.refl _ _)
                  · refine fstep_val rfl rfl (calm_step rfl fun aa ω κ hb hu hc hK => ?_)
                    have h52 : aa.tmps[52]?.getD undef = .tuple #[.agg (arrK .u64 4 (wd off)), .int .i64 0] := hc 6 52 rfl rfl
                    have hk := Lib.hid (fun w1 (h : Below ω.heap.size ω w1) => hK (.int .i64 0) w1 rfl h)
                    clear hK hu hc
                    go_simp
                    exact hk.out _ (Below.refl _ _)
                  · refine fstep_al (n := 4) rfl rfl fun aa ω κ hK => ?_
                    have hk := Lib.hid hK
                    clear hK
                    go_simp
                    exact hk.out _ _ cells4
                  · refine fstep_st (j := 9) (n := 4) (d := 16) rfl rfl rfl rfl rfl hco.1 rfl rfl fun aa ω κ g hb hu hc hp hr hK => ?_
                    have h59 : aa.tmps[59]?.getD undef = .agg (arrK .u64 4 (wd (off))) := hc 7 59 rfl rfl
                    have hk := Lib.hid hK
                    clear hK hu hc
                    have hcc := hco
                    go_simp
                    exact hk.out undef
                  · refine fstep_val rfl rfl (calm_step rfl fun aa ω κ hb hu hc hK => ?_)
                    have h60 : aa.tmps[60]?.getD undef = .int .i64 0 := hc 8 60 rfl rfl
                    have hk := Lib.hid (fun w1 (h : Below ω.heap.size ω w1) => hK (.int .i64 0) w1 rfl h)
                    clear hK hu hc
                    go_simp
                    exact hk.out _ (Below.refl _ _)
                  · intro a1 w1 G I
                    have hK1 := hHK1.out
                    go_wp2_with fail
                    refine Met.intro (hHJ1.out _ _ ?_)
                    have ha0 := hha0.out
                    subst ha0
                    (repeat apply Exists.intro)
                    refine ⟨?_, act_patch (n := 84) [false, false, false, false, false, false, false, false, false, false, false, false, false, false, false, false, true, true, false, false, false, false, false, false, false, false, false, false, false, false, false, false, false, false, false, false, false, false, false, false, false, false, false, false, false, false, false, false, false, false, false, false, true, true, true, true, true, true, true, true, true, false, false, false, false, false, false, false, false, false, false, false, false, false, false, false, false, false, false, false, false, false, false, false] rfl (by kernel_rfl) I.un I.sz I.df⟩
                    exact ⟨G 9, ⟨I.al 9 16 4 rfl rfl rfl, I.val 11 17 rfl rfl⟩, by have h1 := (I.blk 9 4 rfl rfl).1; have h2 := hHD.out.Z.lt; omega, ⟨(I.blk 9 4 rfl rfl).2, (I.row 10 9 rfl rfl).2.2⟩, hHQ.out.step I.bel, hHR.out.step I.bel, hHB.out.step I.bel, hHD.out.step I.bel, below_step I.bel hHL.out (Nat.le_refl _)⟩
                case rest =>
                  obtain ⟨go, ⟨rfl, rfl⟩, hgo, hOv, hQv, hRv, hB, hD, hL⟩ := hcut
                  have hRg := hB.S0.row
                  have hrg := hB.S0.eq
                  have hRo := hOv.row
                  have hro := hOv.eq
                  have hHB := Lib.hid hB
                  have hHD := Lib.hid hD
                  have hHL := Lib.hid hL
                  have hHR := Lib.hid hRv
                  have hof2 : off < 2 ^ 256 := by omega
                  have hsm := hHI0.out.l0
                  clear hB hD hL hQv hRv hOv
                  by_cases hle : off ≤ s0
                  · have hcS := arrK_cells .u64 4 (wd (s0 - off))
                    have hsub := Lib.hid (subGe s0 off hs0 hle)
                    have hI3 : Hid (IvI a m r1 r s1 (s0 - off)) := Lib.hid (by have := hI2.out; rw [nextS_ge hHof.out hle] at this; exact this)
                    generalize s0 - off = S at *
                    go_wp2_with (fail)
                    refine (hsub.out _).mono ?_
                    rintro e w1 ⟨rfl, hb1⟩
                    go_upto_region 14 with (fail)
                    have hB2 := (hHB.out.step hb1).step (below_alloc w1 (Obj.cells (arrK .u64 4 (wd S)) 27))
                    have hD2 := (hHD.out.step hb1).step (below_alloc w1 (Obj.cells (arrK .u64 4 (wd S)) 27))
                    have hL2 := (below_step hb1 hHL.out (Nat.le_refl _)).alloc (below_step hb1 hHL.out (Nat.le_refl _)).size (Obj.cells (arrK .u64 4 (wd S)) 27)
                    have hR2 := (hHR.out.step hb1).step (below_alloc w1 (Obj.cells (arrK .u64 4 (wd S)) 27))
                    have hS2 : NumAt (w1.alloc (Obj.cells (arrK .u64 4 (wd S)) 27)) w1.heap.size S := At.new _ rfl
                    have hgs : IvF g0 g1 h0 h1 w1.heap.size := ivF_of (hHB.out.step hb1) (Nat.le_refl _)
                    generalize w1.alloc (Obj.cells (arrK .u64 4 (wd S)) 27) = w9 at hB2 hD2 hL2 hR2 hS2 ⊢
                    generalize w1.heap.size = gs at hgs hS2 ⊢
                    obtain ⟨n1, n2, n3, n4, n5, n6⟩ := hB2.ne
                    obtain ⟨f1, f2, f3, f4⟩ := hgs
                    obtain ⟨e1, e2, e3, e4⟩ := hgr
                    have m1 := n1.symm
                    have m2 := n2.symm
                    have m3 := n3.symm
                    have m4 := n4.symm
                    have m5 := n5.symm
                    have m6 := n6.symm
                    have x0 := hB2.R0.row
                    have x1 := hB2.R1.row
                    have y1 := hB2.R1.eq
                    have x2 := hB2.S0.row
                    have x3 := hB2.S1.row
                    have y3 := hB2.S1.eq
                    have x4 := hR2.row
                    have y4 := hR2.eq
                    have x5 := hS2.row
                    have y5 := hS2.eq
                    have hcr1 := arrK_cells .u64 4 (wd r1)
                    have hcs1 := arrK_cells .u64 4 (wd s1)
                    have hB3 := Lib.hid (hB2.drew.move r S)
                    have hle4 := hB2.le
                    have hD3 := Lib.hid ((((hD2.drew.far (c := arrK .u64 4 (wd r1)) (show w.heap.size + 4 ≤ g0 by omega)).far (c := arrK .u64 4 (wd r)) (show w.heap.size + 4 ≤ g1 by omega)).far (c := arrK .u64 4 (wd s1)) (show w.heap.size + 4 ≤ h0 by omega)).far (c := arrK .u64 4 (wd S)) (show w.heap.size + 4 ≤ h1 by omega))
                    have hL3 := Lib.hid (below_setRow (c := arrK .u64 4 (wd S)) (below_setRow (c := arrK .u64 4 (wd s1)) (below_setRow (c := arrK .u64 4 (wd r)) (below_setRow (c := arrK .u64 4 (wd r1)) hL2.drew (show w.heap.size ≤ g0 by omega)) (show w.heap.size ≤ g1 by omega)) (show w.heap.size ≤ h0 by omega)) (show w.heap.size ≤ h1 by omega))
                    have hm3 : numIn wr g1 = r1 := numIn_at hHBr.out.R1 hr1
                    have hHm3 := Lib.hid hm3
                    clear hB2 hD2 hL2 hR2 hS2 hle4 hm3
                    go_region
                    go_wp2
                    go_roundw
                    case rel => exact ⟨r1, r, s1, S, hB3.out, hD3.out, hL3.out, hr1, hR, hI3⟩
                    case measure => rw [hHm3.out, numIn_at hB3.out.R1 hR]; exact hms.out
                  · have hsub := Lib.hid (subLt s0 off hs0 hof2 (by omega))
                    have hcT := arrK_cells .u64 4 (wd (s0 + 2 ^ 256 - off))
                    have hadd := Lib.hid (addBack s0 off m hm (by omega) hoff)
                    have hcS := arrK_cells .u64 4 (wd (s0 + m - off))
                    have hI3 : Hid (IvI a m r1 r s1 (s0 + m - off)) := Lib.hid (by have := hI2.out; rw [nextS_lt hHof.out hle] at this; exact this)
                    generalize s0 + m - off = S at *
                    generalize s0 + 2 ^ 256 - off = T at *
                    go_wp2_with (fail)
                    refine (hsub.out _).mono ?_
                    rintro e w1 ⟨rfl, hb1⟩
                    have hD1 := hHD.out.step hb1
                    have z1 : w.heap.size + 1 < w1.heap.size := hD1.M.lt
                    have z2 := hD1.M.row
                    have z3 := hD1.M.eq
                    have hHD1 := Lib.hid hD1
                    clear hD1
                    go_wp2_with (fail)
                    refine (hadd.out _).mono ?_
                    rintro e w2 ⟨⟨co, rfl⟩, hb2⟩
                    have z4 : Row w2 w1.heap.size 4 := row_below (At.new (w := w1) (k := .u64) (m := 4) (f := wd T) 27 rfl).row hb2 (by simp)
                    go_upto_region 14 with (fail)
                    have hgs : IvF g0 g1 h0 h1 w1.heap.size := ivF_of (hHB.out.step hb1) (Nat.le_refl _)
                    have hlz := hHD1.out.Z.lt
                    have hB2 := (((hHB.out.step hb1).step (below_alloc w1 (Obj.cells (arrK .u64 4 (wd T)) 27))).step hb2).far (c := arrK .u64 4 (wd S)) hgs
                    have hD2 := (((hHD1.out).step (below_alloc w1 (Obj.cells (arrK .u64 4 (wd T)) 27))).step hb2).far (c := arrK .u64 4 (wd S)) (show w.heap.size + 4 ≤ w1.heap.size by omega)
                    have hL1 := below_step hb1 hHL.out (Nat.le_refl _)
                    have hL2 := below_setRow (c := arrK .u64 4 (wd S)) (below_step hb2 (hL1.alloc hL1.size (Obj.cells (arrK .u64 4 (wd T)) 27)) (Nat.le_refl _)) hL1.size
                    have hR2 := (((hHR.out.step hb1).step (below_alloc w1 (Obj.cells (arrK .u64 4 (wd T)) 27))).step hb2).far (g' := w1.heap.size) (c := arrK .u64 4 (wd S)) (by have := (hHR.out.step hb1).lt; omega)
                    have hS2 : NumAt (w2.setRow w1.heap.size (arrK .u64 4 (wd S))) w1.heap.size S := At.put z4
                    generalize w2.setRow w1.heap.size (arrK .u64 4 (wd S)) = w9 at hB2 hD2 hL2 hR2 hS2 ⊢
                    clear hb2 z1 z2 z3 z4 hlz hL1 hHD1
                    generalize w1.heap.size = gs at hgs hS2 ⊢
                    obtain ⟨n1, n2, n3, n4, n5, n6⟩ := hB2.ne
                    obtain ⟨f1, f2, f3, f4⟩ := hgs
                    obtain ⟨e1, e2, e3, e4⟩ := hgr
                    have m1 := n1.symm
                    have m2 := n2.symm
                    have m3 := n3.symm
                    have m4 := n4.symm
                    have m5 := n5.symm
                    have m6 := n6.symm
                    have x0 := hB2.R0.row
                    have x1 := hB2.R1.row
                    have y1 := hB2.R1.eq
                    have x2 := hB2.S0.row
                    have x3 := hB2.S1.row
                    have y3 := hB2.S1.eq
                    have x4 := hR2.row
                    have y4 := hR2.eq
                    have x5 := hS2.row
                    have y5 := hS2.eq
                    have hcr1 := arrK_cells .u64 4 (wd r1)
                    have hcs1 := arrK_cells .u64 4 (wd s1)
                    have hB3 := Lib.hid (hB2.drew.move r S)
                    have hle4 := hB2.le
                    have hD3 := Lib.hid ((((hD2.drew.far (c := arrK .u64 4 (wd r1)) (show w.heap.size + 4 ≤ g0 by omega)).far (c := arrK .u64 4 (wd r)) (show w.heap.size + 4 ≤ g1 by omega)).far (c := arrK .u64 4 (wd s1)) (show w.heap.size + 4 ≤ h0 by omega)).far (c := arrK .u64 4 (wd S)) (show w.heap.size + 4 ≤ h1 by omega))
                    have hL3 := Lib.hid (below_setRow (c := arrK .u64 4 (wd S)) (below_setRow (c := arrK .u64 4 (wd s1)) (below_setRow (c := arrK .u64 4 (wd r)) (below_setRow (c := arrK .u64 4 (wd r1)) hL2.drew (show w.heap.size ≤ g0 by omega)) (show w.heap.size ≤ g1 by omega)) (show w.heap.size ≤ h0 by omega)) (show w.heap.size ≤ h1 by omega))
                    have hm3 : numIn wr g1 = r1 := numIn_at hHBr.out.R1 hr1
                    have hHm3 := Lib.hid hm3
                    clear hB2 hD2 hL2 hR2 hS2 hle4 hm3
                    go_region
                    go_wp2
                    go_roundw
                    case rel => exact ⟨r1, r, s1, S, hB3.out, hD3.out, hL3.out, hr1, hR, hI3⟩
                    case measure => rw [hHm3.out, numIn_at hB3.out.R1 hR]; exact hms.out
    · subst hv8
      have hI := Lib.hid (hP hc)
      clear hP hz
      go_wp2
      exact ret_stored2 (p := 4) (q := 5) (ty := 27) (g := w.heap.size + 1 + 1) (n := 4) (c := arrK .u64 4 (wd 0)) rfl Try.underlying27 rfl (by kernel_rfl) rfl hO hc0.1 rfl ⟨0, c, rfl, hI.out, by omega, below_setRow hL (by omega)⟩
/-- Inverse, whatever the modulus. -/
theorem quot_Inverse (a m : Nat) (w : World) (ha : a < 2 ^ 256) (hm : m < 2 ^ 256) : Calls Try.prog 118 #[numV a, numV m] w (RetInv a m w) := by
  unfold numV
  rcases Nat.eq_zero_or_pos m with rfl | h
  · exact inv_head a 0 0 1 w ha (fun V => quot_Mod0 a V) (fun _ => .inl ⟨rfl, rfl, rfl⟩) (fun h => absurd h (by decide))
  · exact inv_head a m (a % m) 0 w ha (fun V => modC2 a m ha hm h V) (fun h => absurd rfl h) (fun _ => ⟨h, hm, rfl⟩)
end Go.Proofs.Ytdlmamnnamlleaa
