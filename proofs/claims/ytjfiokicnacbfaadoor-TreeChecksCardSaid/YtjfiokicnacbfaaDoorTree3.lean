/- Contracts of package tree's climb and Check. -/
import Derived.Test.YtjfiokicnacbfaaDoorTree2
import Derived.Test.YtjfiokicnacbfaaDoorTreeP
import Derived.Test.YtjfiokicnacbfaaDoorRet2
import Derived.Test.YtjfiokicnacbfaaDoorEl
import Derived.Deep.DeepCutAuto
namespace Go.Proofs.YtjfiokicnacbfaaDoor
open Go.ChangeShapes Go.WideShapes Go.ChangeAt Go.RowKit
set_option maxHeartbeats 1000000
set_option maxRecDepth 100000

theorem halves : Halves halfN where
  lt := fun _ h => halfN_lt h
  le := fun _ h => halfN_le h
  even := fun n h => by
    unfold halfN
    have : 1 ≤ (n - 1).log2 := by
      rw [Nat.le_log2 (by omega)]; omega
    obtain ⟨j, hj⟩ : ∃ j, (n - 1).log2 = j + 1 := ⟨(n - 1).log2 - 1, by omega⟩
    rw [hj, Nat.pow_succ]; omega
  up := fun n h => by
    have h1 := halfN_lt (n := n) (by omega)
    have h2 := halfN_le (n := n) (by omega)
    unfold halfN at h1 h2
    have : 1 ≤ (n - 1).log2 := by
      rw [Nat.le_log2 (by omega)]; omega
    obtain ⟨j, hj⟩ : ∃ j, (n - 1).log2 = j + 1 := ⟨(n - 1).log2 - 1, by omega⟩
    have e : halfN n = 2 ^ j * 2 := by unfold halfN; rw [hj, Nat.pow_succ]
    rw [e]
    rw [hj, Nat.pow_succ] at h1 h2
    rw [halfN_of (n := (n + 1) / 2) (j := j) (by omega) (by omega)]
    omega

/-- A slice of digests. -/
def flat (P : List (List UInt8)) : List Value := P.flatMap bytesV
theorem flat_append (P R : List (List UInt8)) : flat (P ++ R) = flat P ++ flat R := by simp [flat]
theorem flat_len : ∀ {P : List (List UInt8)}, (∀ x ∈ P, x.length = 32) → (flat P).length = 32 * P.length
  | [], _ => rfl
  | x :: P, h => by
      have := flat_len (P := P) fun y hy => h y (by simp [hy])
      have h1 := h x (by simp)
      simp only [flat, List.flatMap_cons, List.length_append, bytesV_length, List.length_cons] at this ⊢
      omega
theorem flat_at {P : List (List UInt8)} (h : ∀ x ∈ P, x.length = 32) : ∀ {i : Nat} {x : List UInt8}, P[i]? = some x → ∀ j u, (bytesV x)[j]? = some u → (flat P)[32 * i + j]? = some u := by
  induction P with
  | nil => intro i x hx; simp at hx
  | cons y P ih =>
    intro i x hx j u hu
    have h1 := h y (by simp)
    cases i with
    | zero =>
      have : y = x := by simpa using hx
      subst this
      have hj : j < (bytesV y).length := (List.getElem?_eq_some_iff.1 hu).1
      show (bytesV y ++ flat P)[32 * 0 + j]? = _
      rw [List.getElem?_append_left (by omega), Nat.mul_zero, Nat.zero_add]
      exact hu
    | succ i =>
      show (bytesV y ++ flat P)[32 * (i + 1) + j]? = _
      rw [List.getElem?_append_right (by rw [bytesV_length]; omega), bytesV_length, h1, show 32 * (i + 1) + j - 32 = 32 * i + j by omega]
      exact ih (fun z hz => h z (by simp [hz])) (by simpa using hx) j u hu
structure Pt (w : World) (A : Option Addr) (P : List (List UInt8)) (c : Nat) : Prop where
  rd : Rd w w.heap.size A (flat P)
  all : ∀ x ∈ P, x.length = 32
  le : P.length ≤ c
  mx : c ≤ 9223372036854775807
theorem Pt.step {w w' : World} {A : Option Addr} {P : List (List UInt8)} {c : Nat} (hb : Below w.heap.size w w') (h : Pt w A P c) : Pt w' A P c := ⟨(h.rd.below hb).more hb.size, h.all, h.le, h.mx⟩
theorem Pt.init {w : World} {A : Option Addr} {P R : List (List UInt8)} {c : Nat} (h : Pt w A (P ++ R) c) : Pt w A P c :=
  ⟨fun j u hu => h.rd j u (by rw [flat_append, List.getElem?_append_left (List.getElem?_eq_some_iff.1 hu).1]; exact hu), fun x hx => h.all x (by simp [hx]), by have := h.le; simp at this; omega, h.mx⟩
section
variable {V : World} {B : Nat} {ad : Addr} {P : List (List UInt8)} {m : Nat} {x : List UInt8}
theorem el_cells (h : Rd V B (some ad) (flat P)) (ha : ∀ x ∈ P, x.length = 32) (hx : P[m]? = some x) : ∀ j u, (bytesV x)[j]? = some u → V.cell? ((ad.add (m * 32)).add j) = some u := fun j v hv => by
  rw [addr_add]
  exact h.all (j := m * 32 + j) (u := v) (by rw [Nat.mul_comm]; exact flat_at ha hx j v hv)
theorem el_ok (h : Rd V B (some ad) (flat P)) (ha : ∀ x ∈ P, x.length = 32) (hx : P[m]? = some x) : LdOk V 32 (.pointer (some (ad.add (m * 32)))) :=
  ldOk_of (by rw [bytesV_length]; exact ha x (List.mem_of_getElem? hx)) (el_cells h ha hx)
theorem el_ld (h : Rd V B (some ad) (flat P)) (ha : ∀ x ∈ P, x.length = 32) (hx : P[m]? = some x) : ldC V 32 (.pointer (some (ad.add (m * 32)))) = dgA x := by
  have hxl := ha x (List.mem_of_getElem? hx)
  rw [ldC_of (by rw [bytesV_length]; exact hxl) (el_cells h ha hx), ← dgA_bytes hxl]
end
section
variable {w : World} {dst : Option Tmp} {x : Operand} {tt : TypeId} {pos : String} {af : Array Edge} {gd : Option (Nat × Bool)} {a : Act} {K : Act → World → Prop} {Q : Exit → Act → World → Prop}
theorem load_e32 (h : LdOk w 32 (a.eval x)) : Oper.wp Tryd.prog ⟨dst, .load 31 x, tt, pos, af, gd⟩ a w K Q ↔ K (a.put dst (.agg (ldC w 32 (a.eval x)))) w := wp_load_el Tryd.underlying31 rfl (by kernel_rfl) h
theorem execl_e32 {ρ : Operand → Value} (h : LdOk w 32 (ρ x)) : (execOp ρ ⟨dst, .load 31 x, tt, pos, af, gd⟩).run Tryd.prog w = .ok (.value (.agg (ldC w 32 (ρ x)))) w := exec_load_el Tryd.underlying31 rfl (by kernel_rfl) h
end
attribute [local irreducible] arrV dgA sha
attribute [local go_sem ↓] load_o32 store_o32 execl_o32 execs_o32 load_e32 execl_e32
attribute [local go_sem] isHead_mk isPart_mk offOf_mk blkOf_mk isAgg_mk cellsV_mk row_drew rowAt_drew row_new_cells row_old rowAt_new rowAt_old kp_refl kp_alloc kp_setCell kp_setRow kp_drew kp_drewN zeroD ldOk_drew ldC_drew
/-- Where there is nothing to climb: one leaf, or no path left. -/
theorem climb_one (d : List UInt8) (A : Option Addr) (m c : Nat) (i : Int) (w : World) :
    Calls Tryd.prog 30 #[.int .i64 1, .int .i64 i, .agg (dgA d), .slice A m c] w fun e w' => e = .returned (.tuple #[.agg (dgA d), .bool ((m : Int) == 0)]) ∧ Below w.heap.size w w' := by
  have hcd := dgA_cells d
  have hcz := dgA_cells []
  have hL0 : Below w.heap.size w ((w.alloc (Obj.cells (dgA d) 31)).alloc (Obj.cells (dgA []) 31)) := by go_grown
  have hD0 : Row ((w.alloc (Obj.cells (dgA d) 31)).alloc (Obj.cells (dgA []) 31)) w.heap.size 32 := by go_simp
  have hd0 : rowAt ((w.alloc (Obj.cells (dgA d) 31)).alloc (Obj.cells (dgA []) 31)) w.heap.size = dgA d := by go_simp
  have hR0 : Row ((w.alloc (Obj.cells (dgA d) 31)).alloc (Obj.cells (dgA []) 31)) (w.heap.size + 1) 32 := by go_simp
  go_enter Tryd.func30, Tryd.ntmps30
  generalize hb : ((m : Int) == 0) = b
  go_wp2
  exact ret_stored2 (p := 8) (q := 9) (ty := 31) (g := w.heap.size + 1) (n := 32) (c := dgA d) rfl Tryd.underlying31 rfl (by kernel_rfl) rfl hR0 hcd.1 rfl ⟨rfl, below_setRow hL0 (by omega)⟩
theorem climb_none (d : List UInt8) (A : Option Addr) (c : Nat) (n i : Int) (w : World) (hn : n ≠ 1) :
    Calls Tryd.prog 30 #[.int .i64 n, .int .i64 i, .agg (dgA d), .slice A 0 c] w fun e w' => e = .returned (.tuple #[.agg (dgA d), .bool false]) ∧ Below w.heap.size w w' := by
  have hcd := dgA_cells d
  have hcz := dgA_cells []
  have hL0 : Below w.heap.size w ((w.alloc (Obj.cells (dgA d) 31)).alloc (Obj.cells (dgA []) 31)) := by go_grown
  have hD0 : Row ((w.alloc (Obj.cells (dgA d) 31)).alloc (Obj.cells (dgA []) 31)) w.heap.size 32 := by go_simp
  have hd0 : rowAt ((w.alloc (Obj.cells (dgA d) 31)).alloc (Obj.cells (dgA []) 31)) w.heap.size = dgA d := by go_simp
  have hR0 : Row ((w.alloc (Obj.cells (dgA d) 31)).alloc (Obj.cells (dgA []) 31)) (w.heap.size + 1) 32 := by go_simp
  have hb : (n == 1) = false := by simpa using hn
  go_enter Tryd.func30, Tryd.ntmps30
  go_wp2
  exact ret_stored2 (p := 8) (q := 9) (ty := 31) (g := w.heap.size + 1) (n := 32) (c := dgA d) rfl Tryd.underlying31 rfl (by kernel_rfl) rfl hR0 hcd.1 rfl ⟨rfl, below_setRow hL0 (by omega)⟩
theorem S32 : SlT Tryd.prog 45 31 32 32 := SlT.mk' Tryd.underlying45 (by kernel_rfl) (by omega)
theorem climb_len {K : Nat → W32} : ∀ (r : List (List UInt8)) (f n i : Nat) (d : List UInt8), d.length = 32 → (climbR (nodeL K) halfN f n i d r).1.length = 32
  | _, 0, _, _, d, h => h
  | [], f + 1, n, i, d, h => by unfold climbR; split <;> exact h
  | last :: r, f + 1, n, i, d, h => by
      unfold climbR
      split
      · exact h
      · by_cases hik : i < halfN n
        · simp only [hik, if_true]; exact node_len _ _ _
        · simp only [hik, if_false]; exact node_len _ _ _
theorem tree_climb (K : Nat → W32) : ∀ (r : List (List UInt8)) (m f n i : Nat) (d : List UInt8) (A : Option Addr) (c : Nat) (w : World), r.length = m → Tabs K w → Pt w A r.reverse c → d.length = 32 → n ≤ f → 1 ≤ n → i < n → n ≤ 65536 →
    Calls Tryd.prog 30 #[.int .i64 n, .int .i64 i, .agg (dgA d), .slice A m c] w fun e w' =>
      e = .returned (.tuple #[.agg (dgA (climbR (nodeL K) halfN f n i d r).1), .bool (climbR (nodeL K) halfN f n i d r).2]) ∧ Below w.heap.size w w' := by
  intro r
  induction r with
  | nil =>
    intro m f n i d A c w hm hT hP hd hf h1 hi hn
    obtain ⟨f, rfl⟩ : ∃ g, f = g + 1 := ⟨f - 1, by omega⟩
    subst hm
    by_cases e : n = 1
    · subst e
      exact climb_one d A 0 c i w
    · unfold climbR
      rw [if_neg e]
      exact climb_none d A c n i w (by omega)
  | cons last r ih =>
    intro m f n i d A c w hm hT hP hd hf h1 hi hn
    obtain ⟨f, rfl⟩ : ∃ g, f = g + 1 := ⟨f - 1, by omega⟩
    obtain ⟨m, rfl⟩ : ∃ k, m = k + 1 := ⟨m - 1, by simp at hm; omega⟩
    have hm' : r.length = m := by simpa using hm
    by_cases e : n = 1
    · subst e
      have := climb_one d A (m + 1) c i w
      rw [show (((m + 1 : Nat) : Int) == 0) = false by simp; omega] at this
      exact this
    have hcd := dgA_cells d
    have hcz := dgA_cells []
    have hL0 : Below w.heap.size w ((w.alloc (Obj.cells (dgA d) 31)).alloc (Obj.cells (dgA []) 31)) := by go_grown
    have hD0 : Row ((w.alloc (Obj.cells (dgA d) 31)).alloc (Obj.cells (dgA []) 31)) w.heap.size 32 := by go_simp
    have hd0 : rowAt ((w.alloc (Obj.cells (dgA d) 31)).alloc (Obj.cells (dgA []) 31)) w.heap.size = dgA d := by go_simp
    have hR0 : Row ((w.alloc (Obj.cells (dgA d) 31)).alloc (Obj.cells (dgA []) 31)) (w.heap.size + 1) 32 := by go_simp
    have hT0 := Lib.hid (hT.below hL0 (Nat.le_refl _))
    have hP0 := Lib.hid (show Pt ((w.alloc (Obj.cells (dgA d) 31)).alloc (Obj.cells (dgA []) 31)) A (last :: r).reverse c from hP.step hL0)
    have hmc := hP.le
    have hmx := hP.mx
    rw [List.length_reverse, hm] at hmc
    have hHT := Lib.hid hT
    clear hT hP hm
    have hbn : ((n : Int) == 1) = false := by simp; omega
    have hbl : (((m : Int) + 1) == 0) = false := by simp; omega
    have hHih := Lib.hid ih
    clear ih
    go_enter Tryd.func30, Tryd.ntmps30
    go_upto_region 5 with (fail)
    generalize ((w.alloc (Obj.cells (dgA d) 31)).alloc (Obj.cells (dgA []) 31)) = W0 at *
    obtain ⟨ad, rfl, hadb, -⟩ := hP0.out.rd (32 * m) (.int .u8 (bytesF last 0 : Int)) (by
      have hal : (last :: r).reverse[m]? = some last := by rw [List.reverse_cons, List.getElem?_append_right (by simp; omega)]; simp [hm']
      have hll := hP0.out.all last (by simp)
      refine flat_at hP0.out.all (i := m) hal 0 _ ?_
      simp [bytesV, bytesF, List.getElem?_eq_getElem (show 0 < last.length by omega)])
    have hcl := dgA_cells last
    go_cut [10, 11] (fun v10 v11 wx => v10 = .int .i64 (halfN n : Nat) ∧ v11 = .pointer (some ⟨W0.heap.size, 0, none⟩) ∧ Below W0.heap.size W0 wx ∧ Row wx W0.heap.size 32 ∧ rowAt wx W0.heap.size = dgA last ∧ W0.heap.size < wx.heap.size)
    case first =>
      have hz1 : (0 : Int) ≤ (m : Int) := by omega
      have hz2 : (m : Int) < (m : Int) + 1 := by omega
      have hw1 : IntKind.i64.wrap (m : Int) = (m : Int) := by rw [IntKind.wrap_i64]; omega
      have hlast : (last :: r).reverse[m]? = some last := by rw [List.reverse_cons, List.getElem?_append_right (by simp; omega)]; simp [hm']
      have hrdA : Rd (W0.alloc (Obj.cells (dgA []) 31)) W0.heap.size (some ad) (flat (last :: r).reverse) := hP0.out.rd.below (below_alloc W0 _)
      have hldA := el_ok hP0.out.rd hP0.out.all hlast
      have hldB := el_ld hP0.out.rd hP0.out.all hlast
      have hldC := el_ok hrdA hP0.out.all hlast
      have hldD := el_ld hrdA hP0.out.all hlast
      have hzz : Row (W0.alloc (Obj.cells (dgA []) 31)) W0.heap.size 32 := (row_new rfl).2 hcz.1
      have hend := Lib.hid (show Below W0.heap.size W0 ((W0.alloc (Obj.cells (dgA []) 31)).setRow W0.heap.size (dgA last)).drew ∧ Row ((W0.alloc (Obj.cells (dgA []) 31)).setRow W0.heap.size (dgA last)).drew W0.heap.size 32 ∧ rowAt ((W0.alloc (Obj.cells (dgA []) 31)).setRow W0.heap.size (dgA last)).drew W0.heap.size = dgA last ∧ W0.heap.size < ((W0.alloc (Obj.cells (dgA []) 31)).setRow W0.heap.size (dgA last)).drew.heap.size from
        ⟨(below_setRow (below_alloc W0 _) (Nat.le_refl _)).drew, (row_setRow_same rfl hzz).2 hcl.1, rowAt_setRow_same hzz, ((row_setRow_same rfl hzz).2 hcl.1).lt⟩)
      clear hrdA
      go_region_law (first
        | (go_simp; go_at_call 38; (refine (tree_half n _ (by omega) (by omega)).mono ?_); rintro e w' ⟨rfl, rfl⟩))
      all_goals go_wp2_with fail
      all_goals go_meet
      all_goals exact ⟨rfl, rfl, hend.out⟩
    case rest =>
      obtain ⟨rfl, rfl, hb5, hR5, hr5, hz5⟩ := hcut
      have hT5 := Lib.hid (hT0.out.step hb5)
      have hP5 := Lib.hid (hP0.out.step hb5)
      have hD5 := row_below hD0 hb5 hD0.lt
      have hd5 := (rowAt_below hb5 hD0.lt).trans hd0
      have hO5 := row_below hR0 hb5 hR0.lt
      have hL5 := below_step hb5 hL0 (Nat.le_refl _)
      have hlw : w.heap.size + 1 < W0.heap.size := hR0.lt
      have hll := hP0.out.all last (by simp)
      clear hb5 hT0 hP0 hD0 hd0 hR0 hL0
      obtain ⟨g5, hg5⟩ : ∃ g, g = W0.heap.size := ⟨_, rfl⟩
      rw [← hg5] at hR5 hr5 hz5 hlw hadb ⊢
      clear hg5
      have hw1 : IntKind.i64.wrap (m : Int) = (m : Int) := by rw [IntKind.wrap_i64]; omega
      have hsl : ∀ V : World, (Instr.slice 45 (.slice (some ad) (m + 1) c) none (some (.int .i64 (m : Int))) none).run Tryd.prog V = .ok (.slice (some ad) m c) V :=
        sl_to S32 (some ad) (m + 1) c m _ (by omega) (by omega) (by omega)
      have hk1 := halfN_lt (n := n) (by omega)
      have hk2 := halfN_le (n := n) (by omega)
      have hPr : Pt wc (some ad) r.reverse c := by
        have := hP5.out
        rw [List.reverse_cons] at this
        exact this.init
      have hHPr := Lib.hid hPr
      clear hPr hP5
      by_cases hik : i < halfN n
      · have hdi : decide ((i : Int) < ((halfN n : Nat) : Int)) = true := by simp; omega
        have hxl := climb_len (K := K) r f (halfN n) i d hd
        have hfin := Lib.hid (show climbR (nodeL K) halfN (f + 1) n i d (last :: r) = (nodeL K (climbR (nodeL K) halfN f (halfN n) i d r).1 last, (climbR (nodeL K) halfN f (halfN n) i d r).2) by
          conv => lhs; unfold climbR
          rw [if_neg e]
          simp only [hik, if_true])
        have hIH := Lib.hid (fun (V : World) (h1 : Tabs K V) (h2 : Pt V (some ad) r.reverse c) => hHih.out m f (halfN n) i d (some ad) c V hm' h1 h2 hd (by omega) (by omega) hik (by omega))
        clear hHih
        generalize climbR (nodeL K) halfN f (halfN n) i d r = x at *
        generalize halfN n = k at *
        have hcx := dgA_cells x.1
        have hzz : Row (wc.alloc (Obj.cells (dgA []) 31)).drew wc.heap.size 32 := (row_new rfl).2 hcz.1
        have hD6 : Row (wc.alloc (Obj.cells (dgA []) 31)) w.heap.size 32 := (row_old hD5.lt).2 hD5
        have hd6 : rowAt (wc.alloc (Obj.cells (dgA []) 31)) w.heap.size = dgA d := (rowAt_old hD5.lt).trans hd5
        go_upto_region 7 with (fail)
        go_cut [12, 13] (fun v12 v13 wx => ∃ g, v12 = .pointer (some ⟨g, 0, none⟩) ∧ v13 = .bool x.2 ∧ Below wc.heap.size wc wx ∧ Row wx g 32 ∧ rowAt wx g = dgA x.1)
        case first =>
          go_region_law (first
            | (go_simp; go_at_call 30; (refine Calls.mono (hIH.out _ ?_ ?_) ?_); (focus (refine hT5.out.step ?_; repeat (first | assumption | exact Below.refl _ _ | refine Below.drew ?_ | refine below_al ?_ _ | refine below_step (by assumption) ?_ (Nat.le_refl _)))); (focus (refine hHPr.out.step ?_; repeat (first | assumption | exact Below.refl _ _ | refine Below.drew ?_ | refine below_al ?_ _ | refine below_step (by assumption) ?_ (Nat.le_refl _)))); rintro e w' ⟨rfl, hb'⟩; have hsz' := Below.size hb'; (try have hRg := row_below hzz hb' hzz.lt)))
          all_goals go_wp2_with fail
          all_goals go_meet
          all_goals refine ⟨_, rfl, rfl, ?_, (row_setRow_same rfl (by first | exact hRg | exact (row_new rfl).2 hcz.1)).2 hcx.1, rowAt_setRow_same (n := 32) (by first | exact hRg | exact (row_new rfl).2 hcz.1)⟩
          all_goals refine below_setRow ?_ (by first | exact Nat.le_refl _ | exact hsz')
          all_goals repeat (first | assumption | exact Below.refl _ _ | refine Below.drew ?_ | refine below_al ?_ _ | refine below_step (by assumption) ?_ (Nat.le_refl _))
        case rest =>
          obtain ⟨g, rfl, rfl, hb7, hR7, hr7⟩ := hcut
          have hT7 := Lib.hid (hT5.out.step hb7)
          have hO7 := row_below hO5 hb7 hO5.lt
          have hl7 := row_below hR5 hb7 hR5.lt
          have hlr7 := (rowAt_below hb7 hR5.lt).trans hr5
          have hL7 := below_step hb7 hL5 (Nat.le_refl _)
          have hN := Lib.hid (fun V (h : Tabs K V) => tree_Node K x.1 last V h hxl hll)
          have hcn := dgA_cells (nodeL K x.1 last)
          clear hT5 hO5 hR5 hr5 hD5 hd5 hD6 hd6 hb7 hL5 hIH hHPr hsl hzz
          go_wp2_with (go_at_call 39; refine (hN.out _ hT7.out).mono ?_; rintro e w8 ⟨rfl, hb8⟩; have hO8 := row_below hO7 hb8 hO7.lt; have hL8 := below_step hb8 hL7 (Nat.le_refl _))
          exact ret_stored2 (p := 8) (q := 9) (ty := 31) (g := w.heap.size + 1) (n := 32) (c := dgA (nodeL K x.1 last)) rfl Tryd.underlying31 rfl (by kernel_rfl) rfl hO8 hcn.1 rfl ⟨by rw [hfin.out]; rfl, below_setRow hL8 (by omega)⟩
      · have hdi : decide ((i : Int) < ((halfN n : Nat) : Int)) = false := by simp; omega
        have hxl := climb_len (K := K) r f (n - halfN n) (i - halfN n) d hd
        have hfin := Lib.hid (show climbR (nodeL K) halfN (f + 1) n i d (last :: r) = (nodeL K last (climbR (nodeL K) halfN f (n - halfN n) (i - halfN n) d r).1, (climbR (nodeL K) halfN f (n - halfN n) (i - halfN n) d r).2) by
          conv => lhs; unfold climbR
          rw [if_neg e]
          simp only [hik, if_false])
        have hIH := Lib.hid (fun (V : World) (h1 : Tabs K V) (h2 : Pt V (some ad) r.reverse c) => hHih.out m f (n - halfN n) (i - halfN n) d (some ad) c V hm' h1 h2 hd (by omega) (by omega) (by omega) (by omega))
        have e1 : (n : Int) - ((halfN n : Nat) : Int) = ((n - halfN n : Nat) : Int) := by omega
        have e2 : (i : Int) - ((halfN n : Nat) : Int) = ((i - halfN n : Nat) : Int) := by omega
        have e3 : IntKind.i64.wrap ((n - halfN n : Nat) : Int) = ((n - halfN n : Nat) : Int) := by rw [IntKind.wrap_i64]; omega
        have e4 : IntKind.i64.wrap ((i - halfN n : Nat) : Int) = ((i - halfN n : Nat) : Int) := by rw [IntKind.wrap_i64]; omega
        clear hHih
        generalize climbR (nodeL K) halfN f (n - halfN n) (i - halfN n) d r = x at *
        generalize n - halfN n = n2 at *
        generalize i - halfN n = i2 at *
        generalize halfN n = k at *
        have hcx := dgA_cells x.1
        go_upto_region 9 with (fail)
        go_cut [14] (fun v14 wx => v14 = .bool x.2 ∧ ∃ w', Below wc.heap.size wc w' ∧ wx = w'.setRow w.heap.size (dgA x.1))
        case first =>
          go_region_law (first
            | (go_simp; go_at_call 30; (refine Calls.mono (hIH.out _ ?_ ?_) ?_); (focus (refine hT5.out.step ?_; repeat (first | assumption | exact Below.refl _ _ | refine Below.drew ?_ | refine below_al ?_ _ | refine below_step (by assumption) ?_ (Nat.le_refl _)))); (focus (refine hHPr.out.step ?_; repeat (first | assumption | exact Below.refl _ _ | refine Below.drew ?_ | refine below_al ?_ _ | refine below_step (by assumption) ?_ (Nat.le_refl _)))); rintro e w' ⟨rfl, hb'⟩; have hRg := row_below (row_drew.2 hD5) hb' hD5.lt))
          all_goals go_wp2_with fail
          all_goals go_meet
          all_goals refine ⟨rfl, _, ?_, rfl⟩
          all_goals repeat (first | assumption | exact Below.refl _ _ | refine Below.drew ?_ | refine below_al ?_ _ | refine below_step (by assumption) ?_ (Nat.le_refl _))
        case rest =>
          obtain ⟨rfl, w7, hb7, rfl⟩ := hcut
          have hDa := row_below hD5 hb7 hD5.lt
          have hD7 : Row (w7.setRow w.heap.size (dgA x.1)) w.heap.size 32 := (row_setRow_same rfl hDa).2 hcx.1
          have hd7 : rowAt (w7.setRow w.heap.size (dgA x.1)) w.heap.size = dgA x.1 := rowAt_setRow_same hDa
          have hO7 : Row (w7.setRow w.heap.size (dgA x.1)) (w.heap.size + 1) 32 := (row_setRow_far (by omega)).2 (row_below hO5 hb7 hO5.lt)
          have hl7 : Row (w7.setRow w.heap.size (dgA x.1)) g5 32 := (row_setRow_far (by omega)).2 (row_below hR5 hb7 hR5.lt)
          have hlr7 : rowAt (w7.setRow w.heap.size (dgA x.1)) g5 = dgA last := (rowAt_setRow_far (by omega)).trans ((rowAt_below hb7 hR5.lt).trans hr5)
          have hL7 : Below w.heap.size w (w7.setRow w.heap.size (dgA x.1)) := below_setRow (below_step hb7 hL5 (Nat.le_refl _)) (Nat.le_refl _)
          have hT7 := Lib.hid (hHT.out.step hL7)
          have hN := Lib.hid (fun V (h : Tabs K V) => tree_Node K last x.1 V h hll hxl)
          have hcn := dgA_cells (nodeL K last x.1)
          clear hT5 hO5 hR5 hr5 hD5 hd5 hb7 hL5 hIH hHPr hsl hDa
          go_wp2_with (go_at_call 39; refine (hN.out _ hT7.out).mono ?_; rintro e w8 ⟨rfl, hb8⟩; have hO8 := row_below hO7 hb8 hO7.lt; have hL8 := below_step hb8 hL7 (Nat.le_refl _))
          exact ret_stored2 (p := 8) (q := 9) (ty := 31) (g := w.heap.size + 1) (n := 32) (c := dgA (nodeL K last x.1)) rfl Tryd.underlying31 rfl (by kernel_rfl) rfl hO8 hcn.1 rfl ⟨by rw [hfin.out]; rfl, below_setRow hL8 (by omega)⟩
end Go.Proofs.YtjfiokicnacbfaaDoor
