/- Contracts of the document's leaves, floor, Root and Path. -/
import Derived.Test.YtjihklaocgmlpaaDoorLf2
import Derived.Test.YtjihklaocgmlpaaDoorRet
import Derived.Test.YtjihklaocgmlpaaDoorBitsI
namespace Go.Proofs.YtjihklaocgmlpaaDoor
open Go.ChangeShapes Go.WideShapes Go.ChangeAt Go.RowKit
set_option maxHeartbeats 1000000
set_option maxRecDepth 100000
attribute [local irreducible] arrV dgA sha
attribute [local go_sem ↓] load_o32 store_o32 execl_o32 execs_o32 load_e32 execl_e32 build_32 execb_32
attribute [local go_sem] isHead_mk isPart_mk offOf_mk blkOf_mk isAgg_mk cellsV_mk row_drew rowAt_drew row_new_cells row_old rowAt_new rowAt_old zeroD ldOk_drew ldC_drew

theorem lvs_take (K : Nat → W32) (l : List Sb) {k : Nat} {x : Sb} (hx : l[k]? = some x) : lvs K (l.take (k + 1)) = lvs K (l.take k) ++ [leafL K x.body] := by
  rw [List.take_add_one, hx]; simp [lvs]
theorem refleaf (K : Nat → W32) {p : List UInt8} {w : World} (hT : Tabs K w) (hp : p.length ≤ 140737488351232) :
    Calls Tryd.prog 17 #[strV p] w fun e w' => e = .returned (.agg (dgA (leafL K p))) ∧ Below w.heap.size w w' := ref_Leaf K p w hT (by omega)
theorem convN {w : World} {A : Option Addr} {l : List UInt8} {c n : Nat} (h : Bs w A l c) (hl : l.length = n) : (convert 26 9 (.slice A n c)).run Tryd.prog w = .ok (strV l) w := by rw [← hl]; exact h.conv
theorem ref_leaves (K : Nat → W32) (l : List Sb) (A : Option Addr) (n c : Nat) (w : World) (hl : l.length = n) (hn : n ≤ 1000000) (hT : Tabs K w) (hI : Lf w A l c) :
    Calls Tryd.prog 33 #[.slice A n c] w fun e w' => ∃ v, e = .returned v ∧ OwnD w w.heap.size v (lvs K l) w' := by
  have hHT := Lib.hid hT
  have hI0 := Lib.hid hI
  have hle := hI.le
  have hHl := Lib.hid hl
  clear hT hI hl
  go_enter Tryd.func33, Tryd.ntmps33
  go_wp2_with fail
  go_loopw [3, 8] (fun v x wr => ∃ k : Nat, x = .int .i64 k ∧ k ≤ n ∧ Hid (OwnD w w.heap.size v (lvs K (l.take k)) wr)) (fun _ x _ => n - (intOf x).toNat)
  case atStart => exact ⟨0, rfl, by omega, Lib.hid (OwnD.start w)⟩
  case round =>
    obtain ⟨k, rfl, hk, hO⟩ := hrel
    by_cases hkn : k = n
    · subst hkn
      have hfin : lvs K (l.take k) = lvs K l := by rw [List.take_of_length_le (by have := hHl.out; omega)]
      have hF := Lib.hid hfin
      clear hfin
      go_wp2_with fail
      go_ret
      exact ⟨_, rfl, hF.out ▸ hO.out⟩
    · have hlt : (k : Int) < (n : Int) := by omega
      have hz : (0 : Int) ≤ (k : Int) := by omega
      have hkl : k < l.length := by have := hHl.out; omega
      obtain ⟨ad, rfl, hadb, hcell⟩ := (hI0.out.step hO.out.bel).at_ (k := k) hkl
      obtain ⟨hb, hb6⟩ := (hI0.out.step hO.out.bel).body l[k] (List.getElem_mem hkl)
      have hts := Lib.hid (lvs_take K l (List.getElem?_eq_getElem hkl))
      have hpl : (lvs K (l.take k)).length = k := by rw [lvs_len, List.length_take]; omega
      have hHT2 := Lib.hid (hHT.out.step hO.out.bel)
      obtain ⟨x, hx⟩ : ∃ x, l[k] = x := ⟨_, rfl⟩
      rw [hx] at hcell hb hb6
      have hts2 : Hid (lvs K (l.take (k + 1)) = lvs K (l.take k) ++ [leafL K x.body]) := Lib.hid (by rw [hts.out, hx])
      clear hts hx hkl
      have hcell2 : wr.cell? (ad.add k) = some (.slice x.A x.body.length x.cap) := hcell
      clear hcell
      obtain ⟨xn, hxn⟩ : ∃ xn, x.body.length = xn := ⟨_, rfl⟩
      rw [hxn] at hcell2
      have hcv := convN hb hxn
      have hcl := dgA_cells (leafL K x.body)
      have hxl := leaf_len K x.body
      have hLf := Lib.hid (fun V (h : Tabs K V) => refleaf K (p := x.body) h hb6)
      clear hb hb6 hxn
      generalize leafL K x.body = y at *
      generalize lvs K (l.take k) = q at *
      go_wp2_with fail
      refine (hLf.out _ hHT2.out).mono ?_
      rintro e w2 ⟨rfl, hb2⟩
      have hO2 := Lib.hid (hO.out.step hb2)
      clear hO hb2 hcell2 hcv hHT2
      go_wp2_with (refine wpList_ownD1 (x := y) rfl (.tmp 12) (.tmp 16) rfl rfl hO2.out rfl hxl (by omega) ?_; intro v' w' hO3; have hHO3 := Lib.hid hO3; clear hO3)
      go_roundw
      case rel => exact ⟨k + 1, by go_num, by omega, Lib.hid (hts2.out ▸ hHO3.out)⟩
      case measure => simp [intOf]; omega
theorem floor_two {α : Type} {node : α → α → α} (P : List α) {k : Nat} {x y : α} (hk : k % 2 = 0) (hl : k + 1 < P.length) (hx : P[k]? = some x) (hy : P[k + 1]? = some y) : floorL node (P.take (k + 2)) = floorL node (P.take k) ++ [node x y] := by
  rw [show k + 2 = (k + 1) + 1 from rfl, List.take_add_one, List.take_add_one, hx, hy, List.append_assoc, floorL_app _ _ (by rw [List.length_take, Nat.min_eq_left (by omega)]; exact hk)]
  rfl
theorem floor_one {α : Type} {node : α → α → α} (P : List α) {k : Nat} {x : α} (hk : k % 2 = 0) (hl : P.length = k + 1) (hx : P[k]? = some x) : floorL node (P.take (k + 2)) = floorL node (P.take k) ++ [x] := by
  rw [show k + 2 = (k + 1) + 1 from rfl, List.take_add_one, List.take_add_one, hx, List.getElem?_eq_none (by omega), List.append_assoc, floorL_app _ _ (by rw [List.length_take, Nat.min_eq_left (by omega)]; exact hk)]
  rfl
theorem Pt.some_ {w : World} {A : Option Addr} {P : List (List UInt8)} {c i : Nat} (h : Pt w A P c) (hi : i < P.length) : ∃ ad x, A = some ad ∧ P[i]? = some x ∧ x.length = 32 := by
  have hx : P[i]? = some P[i] := List.getElem?_eq_getElem hi
  have hxl := h.all _ (List.mem_of_getElem? hx)
  obtain ⟨a, rfl, -, -⟩ := h.rd (32 * i) (.int .u8 (bytesF P[i] 0 : Int)) (by
    refine flat_at h.all hx 0 _ ?_
    simp [bytesV, bytesF, List.getElem?_eq_getElem (show 0 < P[i].length by omega)])
  exact ⟨a, _, rfl, hx, hxl⟩
theorem ref_floor (K : Nat → W32) (P : List (List UInt8)) (A : Option Addr) (n c : Nat) (w : World) (hl : P.length = n) (hn : n ≤ 1000000) (hT : Tabs K w) (hP : Pt w A P c) :
    Calls Tryd.prog 34 #[.slice A n c] w fun e w' => ∃ v, e = .returned v ∧ OwnD w w.heap.size v (floorL (nodeL K) P) w' := by
  have hHT := Lib.hid hT
  have hP0 := Lib.hid hP
  have hle := hP.le
  have hHl := Lib.hid hl
  clear hT hP
  rw [hl] at hle
  clear hl
  go_enter Tryd.func34, Tryd.ntmps34
  go_wp2_with fail
  go_loopw [3, 4] (fun v x wr => ∃ k : Nat, x = .int .i64 k ∧ k ≤ n + 1 ∧ k % 2 = 0 ∧ Hid (OwnD w w.heap.size v (floorL (nodeL K) (P.take k)) wr)) (fun _ x _ => n + 1 - (intOf x).toNat)
  case atStart => exact ⟨0, rfl, by omega, rfl, Lib.hid (OwnD.start w)⟩
  case round =>
    obtain ⟨k, rfl, hk, hev, hO⟩ := hrel
    by_cases hkn : n ≤ k
    · have d1 : decide ((k : Int) < (n : Int)) = false := by simp; omega
      have hfin : floorL (nodeL K) (P.take k) = floorL (nodeL K) P := by rw [List.take_of_length_le (by have := hHl.out; omega)]
      have hF := Lib.hid hfin
      clear hfin
      go_wp2_with fail
      go_ret
      exact ⟨_, rfl, hF.out ▸ hO.out⟩
    · have d1 : decide ((k : Int) < (n : Int)) = true := by simp; omega
      have hz : (0 : Int) ≤ (k : Int) := by omega
      have hlt : (k : Int) < (n : Int) := by omega
      have hHT2 := Lib.hid (hHT.out.step hO.out.bel)
      obtain ⟨ad, x, rfl, hx, hxl⟩ := hP0.out.some_ (i := k) (by have := hHl.out; omega)
      have hP1 := hP0.out.step hO.out.bel
      have a1 := el_ok hP1.rd hP1.all hx
      have a2 := el_ld hP1.rd hP1.all hx
      have hcx := dgA_cells x
      have hpl : (floorL (nodeL K) (P.take k)).length ≤ k := by rw [floorL_len, List.length_take]; omega
      by_cases hk1 : k + 1 < n
      · have d2 : decide ((k : Int) + 1 < (n : Int)) = true := by simp; omega
        have hlt2 : (k : Int) + 1 < (n : Int) := by omega
        have w1 : IntKind.i64.wrap ((k : Int) + 1) = (k : Int) + 1 := by rw [IntKind.wrap_i64]; omega
        have t1 : ((k : Int) + 1).toNat = k + 1 := by omega
        have hz1 : (0 : Int) ≤ (k : Int) + 1 := by omega
        obtain ⟨y, hy⟩ : ∃ y, P[k + 1]? = some y := ⟨_, List.getElem?_eq_getElem (by have := hHl.out; omega)⟩
        have hyl := hP0.out.all y (List.mem_of_getElem? hy)
        have b1 := el_ok hP1.rd hP1.all hy
        have b2 := el_ld hP1.rd hP1.all hy
        have hts := Lib.hid (floor_two (node := nodeL K) P hev (by have := hHl.out; omega) hx hy)
        have hN := Lib.hid (fun V (h : Tabs K V) => ref_Node K x y V h hxl hyl)
        have hcn := dgA_cells (nodeL K x y)
        have hnl := node_len K x y
        have hcy := dgA_cells y
        clear hP1 hx hy
        generalize nodeL K x y = z at *
        generalize floorL (nodeL K) (P.take k) = q at *
        go_wp2_with fail
        go_region_law (first
          | (go_simp; go_at_call 19; (refine (hN.out _ (hHT2.out.step (Below.refl _ _).drew)).mono ?_); rintro e w5 ⟨rfl, hb5⟩; have hO5 := Lib.hid (hO.out.drew.step hb5))
          | (refine step_ownD1 (x := z) rfl (.tmp 16) (.tmp 27) rfl rfl hO5.out rfl hnl (by omega) ?_; intro v' w' hO3; have hHO3 := Lib.hid hO3; clear hO3))
        all_goals go_wp2_with fail
        all_goals go_roundw
        all_goals first
          | exact ⟨k + 2, by go_num, by omega, by omega, Lib.hid (hts.out ▸ hHO3.out)⟩
          | (simp [intOf]; omega)
      · have d2 : decide ((k : Int) + 1 < (n : Int)) = false := by simp; omega
        have hts := Lib.hid (floor_one (node := nodeL K) P hev (by have := hHl.out; omega) hx)
        clear hP1 hx
        generalize floorL (nodeL K) (P.take k) = q at *
        go_wp2_with (refine wpList_ownD1 (x := x) rfl (.tmp 29) (.tmp 34) rfl rfl hO.out rfl hxl (by omega) ?_; intro v' w' hO3; have hHO3 := Lib.hid hO3; clear hO3)
        go_roundw
        case rel => exact ⟨k + 2, by go_num, by omega, by omega, Lib.hid (hts.out ▸ hHO3.out)⟩
        case measure => simp [intOf]; omega
end Go.Proofs.YtjihklaocgmlpaaDoor
