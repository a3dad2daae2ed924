/- Contracts of package tree's Path. -/
import Derived.Test.YtjihklaocgmlpaaDoorTreeR
namespace Go.Proofs.YtjihklaocgmlpaaDoor
open Go.ChangeShapes Go.WideShapes Go.ChangeAt Go.RowKit
set_option maxHeartbeats 1000000
set_option maxRecDepth 100000
attribute [local irreducible] arrV dgA sha
attribute [local go_sem ↓] load_o32 store_o32 execl_o32 execs_o32 load_e32 execl_e32 build_32 execb_32
attribute [local go_sem] isHead_mk isPart_mk offOf_mk blkOf_mk isAgg_mk cellsV_mk row_drew rowAt_drew row_new_cells row_old rowAt_new rowAt_old zeroD ldOk_drew ldC_drew

theorem tree_Path_no (A : Option Addr) (n c : Nat) (i : Int) (w : World) (h : ¬ (0 ≤ i ∧ i < n)) :
    Calls Tryd.prog 14 #[.slice A n c, .int .i64 i] w fun e w' => e = .returned (.tuple #[.slice none 0 0, .int .i64 1]) ∧ Below w.heap.size w w' := by
  have hL0 := Below.refl w.heap.size w
  by_cases h1 : i < 0
  · have d1 : decide (i < 0) = true := by simpa using h1
    go_enter Tryd.func14, Tryd.ntmps14
    go_wp2
    go_ret2
    exact ⟨rfl, hL0⟩
  · have d1 : decide (i < 0) = false := by simpa using h1
    have d2 : decide ((n : Int) ≤ i) = true := by simp; omega
    go_enter Tryd.func14, Tryd.ntmps14
    go_wp2
    go_ret2
    exact ⟨rfl, hL0⟩
set_option maxHeartbeats 4000000 in
theorem tree_Path (K : Nat → W32) : ∀ (n : Nat) (l : List Sb) (A : Option Addr) (c i : Nat) (w : World), l.length = n → n ≤ 1000000 → i < n → Tabs K w → Lf w A l c →
    Calls Tryd.prog 14 #[.slice A n c, .int .i64 i] w fun e w' => ∃ v, e = .returned (.tuple #[v, .int .i64 0]) ∧ OwnD w w.heap.size v (pathL K l i) w' := by
  intro n
  induction n using Nat.strongRecOn with
  | _ n ih =>
  intro l A c i w hl hn6 hi hT hI
  have d1 : decide ((i : Int) < 0) = false := by simp
  have d2 : decide ((n : Int) ≤ (i : Int)) = false := by simp; omega
  by_cases h1 : n = 1
  · subst h1
    have hO : Hid (OwnD w w.heap.size (.slice none 0 0) (pathL K l i) w) := Lib.hid (by rw [pathL_one K l i (by omega)]; exact OwnD.start w)
    clear hT hI ih
    go_enter Tryd.func14, Tryd.ntmps14
    go_wp2
    go_ret2
    exact ⟨_, rfl, hO.out⟩
  have d3 : ((n : Int) == 1) = false := by simp; omega
  have hk1 := halfN_lt (n := n) (by omega)
  have hk2 := halfN_le (n := n) (by omega)
  have hmx := hI.mx
  have hle := hI.le
  have hHT := Lib.hid hT
  have hI0 := Lib.hid hI
  have hfin := Lib.hid (pathL_split K l hl (by omega) hi)
  have hl1 : (l.take (halfN n)).length = halfN n := by rw [List.length_take]; omega
  have hl2 : (l.drop (halfN n)).length = n - halfN n := by rw [List.length_drop]; omega
  obtain ⟨A1, hs1, hs2⟩ := sl_from SLf A n c (n - halfN n) (halfN n : Nat) (by omega) (by omega) (by simp) (by omega)
  have hs0 := fun V => sl_to SLf A n c (halfN n) (halfN n : Nat) (by omega) (by omega) (by simp) V
  have hI2 : Hid (Lf w A1 (l.drop (halfN n)) (c - halfN n)) := Lib.hid ⟨by
      rw [List.map_drop]
      have := hs2 _ _ (l.map Sb.cell) (by simp [hl]) hI0.out.cells
      simpa using this, fun x hx => hI0.out.body x (List.mem_of_mem_drop hx), by omega, by omega⟩
  have hI1 := Lib.hid (hI0.out.take (halfN n))
  have hR1 := Lib.hid (fun V (h1 : Tabs K V) (h2 : Lf V A (l.take (halfN n)) c) => tree_Root K (halfN n) (l.take (halfN n)) A c V hl1 h1 h2)
  have hR2 := Lib.hid (fun V (h1 : Tabs K V) (h2 : Lf V A1 (l.drop (halfN n)) (c - halfN n)) => tree_Root K (n - halfN n) (l.drop (halfN n)) A1 (c - halfN n) V hl2 h1 h2)
  have hx1 := rootL_len K (l.take (halfN n))
  have hx2 := rootL_len K (l.drop (halfN n))
  have hcx := dgA_cells (rootL K (l.take (halfN n)))
  have hcy := dgA_cells (rootL K (l.drop (halfN n)))
  have hHf := Lib.hid (fun V => tree_half n V (by omega) (by omega))
  have e1 : ((halfN n : Nat) : Int).toNat = halfN n := by simp
  rw [e1] at hs1
  by_cases hik : i < halfN n
  · have hC1 := Lib.hid (ih (halfN n) hk1 (l.take (halfN n)) A c i w hl1 (by omega) hik hT hI1.out)
    rw [if_pos hik] at hfin
    have hpl := pathL_len K (l.take (halfN n)) i
    rw [hl1] at hpl
    have d4 : decide ((i : Int) < ((halfN n : Nat) : Int)) = true := by simp; omega
    clear hs2 hI0 ih hl1 hl2 hT hI
    go_enter Tryd.func14, Tryd.ntmps14
    go_wp2_with fail
    refine (hHf.out _).mono ?_
    rintro e w1 ⟨rfl, rfl⟩
    generalize rootL K (l.take (halfN n)) = x at *
    generalize rootL K (l.drop (halfN n)) = y at *
    generalize pathL K (l.take (halfN n)) i = q at *
    generalize n - halfN n = m at *
    generalize halfN n = k at *
    generalize c - k = c2 at *
    go_wp2_with fail
    refine (hC1.out).mono ?_
    rintro e w1 ⟨v, rfl, hO1⟩
    have hHO := Lib.hid hO1
    have hT1 := Lib.hid (hHT.out.step hO1.bel)
    have hI3 := Lib.hid (hI2.out.step hO1.bel)
    clear hO1
    go_wp2_with fail
    refine (hR2.out _ hT1.out hI3.out).mono ?_
    rintro e w2 ⟨rfl, hb2⟩
    have hO2 := Lib.hid (hHO.out.step hb2)
    clear hHO hb2
    go_wp2_with (refine wpList_ownD1 (x := y) rfl (.tmp 36) (.tmp 41) rfl rfl hO2.out rfl hx2 (by omega) ?_; intro v' w' hO3; have hHO3 := Lib.hid hO3; clear hO3)
    go_ret2
    exact ⟨_, rfl, hfin.out ▸ hHO3.out⟩
  · have hC2 := Lib.hid (ih (n - halfN n) (by omega) (l.drop (halfN n)) A1 (c - halfN n) (i - halfN n) w hl2 (by omega) (by omega) hT hI2.out)
    rw [if_neg hik] at hfin
    have hpl := pathL_len K (l.drop (halfN n)) (i - halfN n)
    rw [hl2] at hpl
    have hmn : n - halfN n ≤ 1000000 := by omega
    have d4 : decide ((i : Int) < ((halfN n : Nat) : Int)) = false := by simp; omega
    have e2 : (i : Int) - ((halfN n : Nat) : Int) = ((i - halfN n : Nat) : Int) := by omega
    have e3 : IntKind.i64.wrap ((i - halfN n : Nat) : Int) = ((i - halfN n : Nat) : Int) := by rw [IntKind.wrap_i64]; omega
    clear hs2 hI0 ih hl1 hl2 hT hI
    go_enter Tryd.func14, Tryd.ntmps14
    go_wp2_with fail
    refine (hHf.out _).mono ?_
    rintro e w1 ⟨rfl, rfl⟩
    generalize rootL K (l.take (halfN n)) = x at *
    generalize rootL K (l.drop (halfN n)) = y at *
    generalize pathL K (l.drop (halfN n)) (i - halfN n) = q at *
    generalize n - halfN n = m at *
    generalize i - halfN n = i2 at *
    generalize halfN n = k at *
    generalize c - k = c2 at *
    go_wp2_with fail
    refine (hC2.out).mono ?_
    rintro e w1 ⟨v, rfl, hO1⟩
    have hHO := Lib.hid hO1
    have hT1 := Lib.hid (hHT.out.step hO1.bel)
    have hI3 := Lib.hid (hI1.out.step hO1.bel)
    clear hO1
    go_wp2_with fail
    refine (hR1.out _ hT1.out hI3.out).mono ?_
    rintro e w2 ⟨rfl, hb2⟩
    have hO2 := Lib.hid (hHO.out.step hb2)
    clear hHO hb2
    go_wp2_with (refine wpList_ownD1 (x := x) rfl (.tmp 53) (.tmp 58) rfl rfl hO2.out rfl hx1 (by omega) ?_; intro v' w' hO3; have hHO3 := Lib.hid hO3; clear hO3)
    go_ret2
    exact ⟨_, rfl, hfin.out ▸ hHO3.out⟩
end Go.Proofs.YtjihklaocgmlpaaDoor
