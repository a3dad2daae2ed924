/- DerNumbers: the law's function returns true. -/
import Derived.Test.YtjihklaocgmlpaaDn9
import Derived.Test.YtjihklaocgmlpaaCalm
import Derived.Test.YtjihklaocgmlpaaLimbTP
namespace Go.Proofs.Ytjihklaocgmlpaa
open Go Go.ChangeShapes Go.WideShapes Go.ChangeAt Go.RowKit
set_option maxHeartbeats 2000000
set_option maxRecDepth 100000
attribute [local go_sem ↓] load_n4 store_n4
attribute [local go_sem] isHead_mk blkOf_mk isAgg_mk cellsV_mk row_drew rowAt_drew row_new_cells row_old rowAt_new rowAt_old setRow_new zeroNum
def SRel.txt (L : List UInt8) : SRel := ⟨fun v w => ∃ A c, v = .slice A L.length c ∧ Rd w w.heap.size A (bytesV L), fun _ _ _ hb ⟨A, c, h1, h2⟩ => ⟨A, c, h1, (h2.below hb).more hb.size⟩⟩
theorem conv_txt {w : World} {A : Option Addr} {L : List UInt8} {c : Nat} (h : Rd w w.heap.size A (bytesV L)) : (convert 25 9 (.slice A L.length c)).run Try.prog w = .ok (strW L) w :=
  conv_rd Try.underlying25 Try.underlying5 Try.underlying9 h
theorem bLs_beB (a m : Nat) : bLs (fun i => byt a (m - i)) (m + 1) = beB a (m + 1) := by
  apply List.ext_getElem?
  intro i
  by_cases hi : i < m + 1
  · rw [beB_at a (m + 1) i hi]
    simp [bLs, hi]
  · rw [List.getElem?_eq_none (by rw [bLs_len]; omega), List.getElem?_eq_none (by rw [beB_len]; omega)]
theorem numTexts (a : Nat) (ha : a < 2 ^ 256) : ∃ T : List UInt8,
    (∀ w, Calls Try.prog 14 #[numV a] w fun e w' => ∃ v, e = .returned v ∧ (SRel.txt T).p v w' ∧ Below w.heap.size w w') ∧
    (∀ w, Calls Try.prog 15 #[numV a] w fun e w' => e = .returned (strW T) ∧ Below w.heap.size w w') := by
  have hl := bitLen_is 256 a ha
  refine ⟨beB a (Lib.bitLenAux 256 a / 8 + 1), fun w => (der_Number a w ha).mono ?_, fun w => (ref_NumberText a w ha).mono ?_⟩
  · rintro e w' ⟨len, hlen, g, rfl, hA, hb⟩
    have e1 := hl.only hlen
    rw [e1]
    refine ⟨_, rfl, ⟨some ⟨g, 0, none⟩, len / 8 + 1, by rw [beB_len], ?_⟩, hb⟩
    rw [← bLs_beB]
    exact (hA.rdB (Nat.le_refl _) (fun i _ => byt_lt _ _)).more hA.row.lt
  · rintro e w' ⟨j, h1, h2, rfl, hb⟩
    exact ⟨by rw [numT_eq hl h1 h2], hb⟩
theorem hexTexts (s : List UInt8) (hs : s.length ≤ 1048576) : ∃ (L : List UInt8) (hc : Int),
    (∀ w, Calls Try.prog 12 #[strW s] w fun e w' => ∃ A c, e = .returned (.tuple #[.slice A L.length c, .int .i64 hc]) ∧ Rd w' w'.heap.size A (bytesV L) ∧ Below w.heap.size w w') ∧
    (∀ w, Calls Try.prog 13 #[strW s] w fun e w' => e = .returned (.tuple #[strW L, .int .i64 hc]) ∧ Below w.heap.size w w') := by
  by_cases hok : HexOk s
  · refine ⟨prH s (s.length / 2), 0, fun w => (der_ReadHex s _ w rfl hs hok.1).mono ?_, fun w => (ref_ReadHex s _ w rfl hs).mono ?_⟩
    · rintro e w' ⟨⟨-, A, c, rfl, h⟩ | ⟨h, -⟩, hb⟩
      · exact ⟨A, c, by rw [prH_len], h, hb⟩
      · exact absurd hok h
    · rintro e w' ⟨⟨-, rfl⟩ | ⟨h, -⟩, hb⟩
      · exact ⟨rfl, hb⟩
      · exact absurd hok h
  · refine ⟨[], 4, fun w => ?_, fun w => (ref_ReadHex s _ w rfl hs).mono ?_⟩
    · by_cases ho : s.length % 2 = 1
      · refine (der_ReadHex_odd s _ w rfl ho).mono ?_
        rintro e w' ⟨rfl, rfl⟩
        exact ⟨none, 0, rfl, Rd.nil, Below.refl _ _⟩
      · refine (der_ReadHex s _ w rfl hs (by omega)).mono ?_
        rintro e w' ⟨⟨h, -⟩ | ⟨-, rfl⟩, hb⟩
        · exact absurd h hok
        · exact ⟨none, 0, rfl, Rd.nil, hb⟩
    · rintro e w' ⟨⟨h, -⟩ | ⟨-, rfl⟩, hb⟩
      · exact absurd h hok
      · exact ⟨rfl, hb⟩
set_option maxHeartbeats 4000000 in
theorem derNumbers (a : Nat) (A : Option Addr) (b : List UInt8) (n c : Nat) (s : List UInt8) (w : World) (ha : a < 2 ^ 256) (hb : Rd w w.heap.size A (bytesV b)) (hn : b.length = n) (hnc : n ≤ c) (hn1 : n ≤ 1048576) (hs : s.length ≤ 1048576) :
    Calls Try.prog 3 #[numV a, .slice A n c, strW s] w fun e w' => e = .returned (.bool true) ∧ Below w.heap.size w w' := by
  obtain ⟨T, hT1, hT2⟩ := numTexts a ha
  obtain ⟨L, hcode, hH1, hH2⟩ := hexTexts s hs
  unfold numV at hT1 hT2 ⊢
  have hc1 := Lib.hid hT1
  have hc2 := Lib.hid hT2
  have hc3 := Lib.hid hH1
  have hc4 := Lib.hid hH2
  have hrd := Lib.hid hb
  have hHn := Lib.hid hn
  have hca := arrK_cells .u64 4 (wd a)
  have hcz := arrK_cells .u64 4 (wd 0)
  have hcr := arrK_cells .u64 4 (wd (rnum b).1)
  have hL0 := below_alloc w (Obj.cells (arrK .u64 4 (wd a)) 24)
  have hA0 : Row (w.alloc (Obj.cells (arrK .u64 4 (wd a)) 24)) w.heap.size 4 := (row_new rfl).2 hca.1
  have ha0 : rowAt (w.alloc (Obj.cells (arrK .u64 4 (wd a)) 24)) w.heap.size = arrK .u64 4 (wd a) := rowAt_new rfl
  have hR1 := Lib.hid (fun V (hV : Below w.heap.size w V) => der_ReadNumber A b n c V ((hb.below hV).more hV.size) hn hnc)
  have hR2 := Lib.hid (fun V => ref_ReadNumber b n V hn (by omega))
  have hX1 := Lib.hid (fun V (hV : Below w.heap.size w V) => der_Hex A b n c V ((hb.below hV).more hV.size) hn hn1)
  have hX2 := Lib.hid (fun V (hV : Below w.heap.size w V) => ref_HexText A b n c V ((hb.below hV).more hV.size) hn hn1)
  have hCb := Lib.hid (fun V (hV : Below w.heap.size w V) => conv_txt (c := c) ((hb.below hV).more hV.size))
  rw [hn] at hCb
  obtain ⟨rc, hrc⟩ : ∃ rc, (rnum b).2 = rc := ⟨_, rfl⟩
  obtain ⟨rv, hrv⟩ : ∃ rv, (rnum b).1 = rv := ⟨_, rfl⟩
  rw [hrc, hrv] at hR1 hR2
  rw [hrv] at hcr
  generalize hexT b = hx at *
  clear ha hT1 hT2 hH1 hH2 hb hn hrc hrv
  generalize hXa : arrK .u64 4 (wd a) = Xa at *
  generalize hXr : arrK .u64 4 (wd rv) = Xr at *
  have hHXr := Lib.hid hXr
  clear hXa hXr
  go_enter Try.func3, Try.ntmps3
  go_wp2_with fail
  generalize w.alloc (Obj.cells Xa 24) = W0 at *
  refine (hR1.out W0 hL0).mono ?_
  rintro e w1 ⟨rfl, hb1⟩
  have hL1 := below_step hb1 hL0 (Nat.le_refl _)
  have hz1 : Row (w1.alloc (Obj.cells (arrK .u64 4 (wd 0)) 24)) w1.heap.size 4 := (row_new rfl).2 hcz.1
  have hst1 : (w1.alloc (Obj.cells (arrK .u64 4 (wd 0)) 24)).setRow w1.heap.size Xr = w1.alloc (Obj.cells Xr 24) := setRow_new rfl
  have hq1 := hCb.out (w1.alloc (Obj.cells Xr 24)) (below_step (below_alloc _ _) hL1 (Nat.le_refl _))
  go_wp2_with fail
  refine (hR2.out _).mono ?_
  rintro e w2 ⟨rfl, hb2⟩
  have hX0 : Row (w1.alloc (Obj.cells Xr 24)) w1.heap.size 4 := (row_new rfl).2 hcr.1
  have hx0 : rowAt (w1.alloc (Obj.cells Xr 24)) w1.heap.size = Xr := rowAt_new rfl
  have hL1a := below_step (below_alloc w1 (Obj.cells Xr 24)) hL1 (Nat.le_refl _)
  have hA1 := row_below hA0 (below_step (below_alloc w1 (Obj.cells Xr 24)) hb1 (Nat.le_refl _)) hA0.lt
  have ha1 := (rowAt_below (below_step (below_alloc w1 (Obj.cells Xr 24)) hb1 (Nat.le_refl _)) hA0.lt).trans ha0
  have hA2 := row_below hA1 hb2 hA1.lt
  have ha2 := (rowAt_below hb2 hA1.lt).trans ha1
  have hX2r := row_below hX0 hb2 hX0.lt
  have hx2r := (rowAt_below hb2 hX0.lt).trans hx0
  have hL2 := below_step hb2 hL1a (Nat.le_refl _)
  have hz2 : Row (w2.alloc (Obj.cells (arrK .u64 4 (wd 0)) 24)) w2.heap.size 4 := (row_new rfl).2 hcz.1
  have hst2 : (w2.alloc (Obj.cells (arrK .u64 4 (wd 0)) 24)).setRow w2.heap.size Xr = w2.alloc (Obj.cells Xr 24) := setRow_new rfl
  generalize w1.heap.size = B1 at *
  clear hz1 hst1 hq1 hX0 hx0 hL1a hA1 ha1 hb2 hL1 hb1 hA0 ha0 hL0
  go_wp2_with fail
  have hbA := below_alloc w2 (Obj.cells Xr 24)
  have hX3 : Row (w2.alloc (Obj.cells Xr 24)) w2.heap.size 4 := (row_new rfl).2 hcr.1
  have hx3 : rowAt (w2.alloc (Obj.cells Xr 24)) w2.heap.size = Xr := rowAt_new rfl
  have hA3 := row_below hA2 hbA hA2.lt
  have ha3 := (rowAt_below hbA hA2.lt).trans ha2
  have hX3r := row_below hX2r hbA hX2r.lt
  have hx3r := (rowAt_below hbA hX2r.lt).trans hx2r
  have hL3 := below_step hbA hL2 (Nat.le_refl _)
  clear hbA hz2 hst2 hA2 ha2 hX2r hx2r hL2
  generalize w2.alloc (Obj.cells Xr 24) = W3 at *
  generalize w2.heap.size = B2 at *
  refine (hc3.out W3).mono ?_
  rintro e w4 ⟨A4, c4, rfl, hrd4, hb4⟩
  have hrd4' := Lib.hid hrd4
  clear hrd4
  go_wp2_with fail
  refine (hc4.out w4).mono ?_
  rintro e w5 ⟨rfl, hb5⟩
  have hb6 := below_step hb5 hb4 (Nat.le_refl _)
  have hL5 := below_step hb6 hL3 (Nat.le_refl _)
  have hS := Lib.hid (show ∀ V, Below w5.heap.size w5 V → (Row V w.heap.size 4 ∧ rowAt V w.heap.size = Xa) ∧ (Row V B1 4 ∧ rowAt V B1 = Xr) ∧ (Row V B2 4 ∧ rowAt V B2 = Xr) ∧ Below w.heap.size w V ∧ Rd V V.heap.size A4 (bytesV L) from fun V hV => by
    have hb7 := below_step hV hb6 (Nat.le_refl _)
    exact ⟨⟨row_below hA3 hb7 hA3.lt, (rowAt_below hb7 hA3.lt).trans ha3⟩, ⟨row_below hX3r hb7 hX3r.lt, (rowAt_below hb7 hX3r.lt).trans hx3r⟩, ⟨row_below hX3 hb7 hX3.lt, (rowAt_below hb7 hX3.lt).trans hx3⟩, below_step hb7 hL3 (Nat.le_refl _),
      ((hrd4'.out.below (below_step hV hb5 (Nat.le_refl _))).more (below_step hV hb5 (Nat.le_refl _)).size)⟩)
  have hEi := Lib.hid (fun V : World => show (Op.equalIn 10000 24 (.agg Xr) (.agg Xr)).run Try.prog V = .ok true V by rw [← hHXr.out]; exact eqlSame4 (wd rv) V)
  clear hX3 hx3 hA3 ha3 hX3r hx3r hL3 hb6 hb4 hb5 hrd4' hR1 hR2 hc3 hc4 hrd
  go_wp2_with fail
  generalize ha0 : Act.mk _ _ = a0
  have e1 : a0.tmps[1]?.getD undef = .slice A n c := by rw [← ha0]; rfl
  have e3 : a0.tmps[3]?.getD undef = .pointer (some ⟨w.heap.size, 0, none⟩) := by rw [← ha0]; rfl
  have e7 : a0.tmps[7]?.getD undef = .pointer (some ⟨B1, 0, none⟩) := by rw [← ha0]; rfl
  have e8 : a0.tmps[8]?.getD undef = .int .i64 rc := by rw [← ha0]; rfl
  have e9 : a0.tmps[9]?.getD undef = .pointer (some ⟨B2, 0, none⟩) := by rw [← ha0]; rfl
  have e10 : a0.tmps[10]?.getD undef = .int .i64 rc := by rw [← ha0]; rfl
  have e11 : a0.tmps[11]?.getD undef = .slice A4 L.length c4 := by rw [← ha0]; rfl
  have e12 : a0.tmps[12]?.getD undef = .int .i64 hcode := by rw [← ha0]; rfl
  have e13 : a0.tmps[13]?.getD undef = strW L := by rw [← ha0]; rfl
  have e14 : a0.tmps[14]?.getD undef = .int .i64 hcode := by rw [← ha0]; rfl
  have hz0 : a0.tmps.size = 70 := by rw [← ha0]; rfl
  have hha0 := Lib.hid ha0
  clear ha0
  refine wp_region_calm (fun jx_ => match jx_ with | 0 => SRel.is (.agg Xa) | 1 => SRel.txt T | 2 => SRel.is (strW T) | 3 => SRel.is (.agg Xa) | 4 => SRel.is (strW T) | 5 => SRel.is (.bool true) | 6 => SRel.is (.bool true) | 7 => SRel.is (.agg Xr) | 8 => SRel.is (.agg Xr) | 9 => SRel.is (.bool true) | 10 => SRel.is (.bool true) | 11 => SRel.is (.bool true) | 12 => SRel.is (.int .i64 rc) | 13 => SRel.is (.int .i64 rc) | 14 => SRel.is (.bool true) | 15 => SRel.is (.bool true) | 16 => SRel.is (.bool true) | 17 => SRel.is (.slice A n c) | 18 => SRel.is (strW hx) | 19 => SRel.is (.slice A n c) | 20 => SRel.is (strW hx) | 21 => SRel.is (.bool true) | 22 => SRel.is (.bool true) | 23 => SRel.is (.bool true) | 24 => SRel.is (.slice A4 L.length c4) | 25 => SRel.is (strW L) | 26 => SRel.is (strW L) | 27 => SRel.is (.bool true) | 28 => SRel.is (.bool true) | 29 => SRel.is (.bool true) | 30 => SRel.is (.int .i64 hcode) | 31 => SRel.is (.int .i64 hcode) | 32 => SRel.is (.bool true) | 33 => SRel.is (.bool true) | 34 => SRel.is (.bool true) | _ => SRel.any) (by kernel_rfl) (by kernel_rfl) (by kernel_rfl) (slotsOk_of hz0 (by kernel_rfl)) ⟨?_, ?_, ?_, ?_, ?_, ?_, ?_, ?_, ?_, ?_, ?_, ?_, ?_, ?_, ?_, ?_, ?_, ?_, ?_, ?_, ?_, ?_, ?_, ?_, ?_, ?_, ?_, ?_, ?_, ?_, ?_, ?_, ?_, ?_, ?_, trivial⟩ ?_
  · refine calm_step rfl fun a ω κ hb hu hc hK => ?_
    have h3 : a.tmps[3]?.getD undef = .pointer (some ⟨w.heap.size, 0, none⟩) := (hu 3 rfl).trans e3
    have hk := Lib.hid (fun w1 (h : Below ω.heap.size ω w1) => hK (.agg Xa) w1 rfl h)
    clear hK hu hc
    have b1 := (hS.out ω hb).1.1
    have b2 := (hS.out ω hb).1.2
    go_simp
    exact hk.out _ (Below.refl _ _)
  · refine calm_step rfl fun a ω κ hb hu hc hK => ?_
    have h36 : a.tmps[36]?.getD undef = .agg Xa := hc 0 36 rfl rfl
    have hk := Lib.hid (fun v w1 (hv : (SRel.txt T).p v w1) (h : Below ω.heap.size ω w1) => hK v w1 hv h)
    clear hK hu hc
    go_simp
    go_at_call 14
    refine (hc1.out ω).mono ?_
    rintro e w1 ⟨v, rfl, hv, hb1⟩
    exact hk.out _ _ hv hb1
  · refine calm_step rfl fun a ω κ hb hu hc hK => ?_
    have h37 : (SRel.txt T).p (a.tmps[37]?.getD undef) ω := hc 1 37 rfl rfl
    have hk := Lib.hid (fun w1 (h : Below ω.heap.size ω w1) => hK (strW T) w1 rfl h)
    clear hK hu hc
    obtain ⟨A7, c7, q7, r7⟩ := h37
    have q8 := conv_txt (c := c7) r7
    go_simp
    exact hk.out _ (Below.refl _ _)
  · refine calm_step rfl fun a ω κ hb hu hc hK => ?_
    have h3 : a.tmps[3]?.getD undef = .pointer (some ⟨w.heap.size, 0, none⟩) := (hu 3 rfl).trans e3
    have hk := Lib.hid (fun w1 (h : Below ω.heap.size ω w1) => hK (.agg Xa) w1 rfl h)
    clear hK hu hc
    have b1 := (hS.out ω hb).1.1
    have b2 := (hS.out ω hb).1.2
    go_simp
    exact hk.out _ (Below.refl _ _)
  · refine calm_step rfl fun a ω κ hb hu hc hK => ?_
    have h39 : a.tmps[39]?.getD undef = .agg Xa := hc 3 39 rfl rfl
    have hk := Lib.hid (fun w1 (h : Below ω.heap.size ω w1) => hK (strW T) w1 rfl h)
    clear hK hu hc
    go_simp
    go_at_call 15
    refine (hc2.out ω).mono ?_
    rintro e w1 ⟨rfl, hb1⟩
    exact hk.out _ hb1
  · refine calm_step rfl fun a ω κ hb hu hc hK => ?_
    have h38 : a.tmps[38]?.getD undef = strW T := hc 2 38 rfl rfl
    have h40 : a.tmps[40]?.getD undef = strW T := hc 4 40 rfl rfl
    have hk := Lib.hid (fun w1 (h : Below ω.heap.size ω w1) => hK (.bool true) w1 rfl h)
    clear hK hu hc
    go_simp
    exact hk.out _ (Below.refl _ _)
  · refine calm_step rfl fun a ω κ hb hu hc hK => ?_
    have h41 : a.tmps[41]?.getD undef = .bool true := hc 5 41 rfl rfl
    have hk := Lib.hid (fun w1 (h : Below ω.heap.size ω w1) => hK (.bool true) w1 rfl h)
    clear hK hu hc
    go_simp
    exact hk.out _ (Below.refl _ _)
  · refine calm_step_guard (g := 6) (b := true) (d := 42) rfl rfl (fun a w hc => hc 6 42 rfl rfl) fun a ω κ hb hu hc hK => ?_
    have h7 : a.tmps[7]?.getD undef = .pointer (some ⟨B1, 0, none⟩) := (hu 7 rfl).trans e7
    have hk := Lib.hid (fun w1 (h : Below ω.heap.size ω w1) => hK (.agg Xr) w1 rfl h)
    clear hK hu hc
    have b1 := (hS.out ω hb).2.1.1
    have b2 := (hS.out ω hb).2.1.2
    go_simp
    exact hk.out _ (Below.refl _ _)
  · refine calm_step_guard (g := 6) (b := true) (d := 42) rfl rfl (fun a w hc => hc 6 42 rfl rfl) fun a ω κ hb hu hc hK => ?_
    have h9 : a.tmps[9]?.getD undef = .pointer (some ⟨B2, 0, none⟩) := (hu 9 rfl).trans e9
    have hk := Lib.hid (fun w1 (h : Below ω.heap.size ω w1) => hK (.agg Xr) w1 rfl h)
    clear hK hu hc
    have b1 := (hS.out ω hb).2.2.1.1
    have b2 := (hS.out ω hb).2.2.1.2
    go_simp
    exact hk.out _ (Below.refl _ _)
  · refine calm_step_guard (g := 6) (b := true) (d := 42) rfl rfl (fun a w hc => hc 6 42 rfl rfl) fun a ω κ hb hu hc hK => ?_
    have h43 : a.tmps[43]?.getD undef = .agg Xr := hc 7 43 rfl rfl
    have h44 : a.tmps[44]?.getD undef = .agg Xr := hc 8 44 rfl rfl
    have hk := Lib.hid (fun w1 (h : Below ω.heap.size ω w1) => hK (.bool true) w1 rfl h)
    clear hK hu hc
    have q1 := hEi.out ω
    go_simp
    exact hk.out _ (Below.refl _ _)
  · refine calm_step rfl fun a ω κ hb hu hc hK => ?_
    have h42 : a.tmps[42]?.getD undef = .bool true := hc 6 42 rfl rfl
    have h45 : a.tmps[45]?.getD undef = .bool true := hc 9 45 rfl rfl
    have hk := Lib.hid (fun w1 (h : Below ω.heap.size ω w1) => hK (.bool true) w1 rfl h)
    clear hK hu hc
    go_simp
    exact hk.out _ (Below.refl _ _)
  · refine calm_step rfl fun a ω κ hb hu hc hK => ?_
    have h46 : a.tmps[46]?.getD undef = .bool true := hc 10 46 rfl rfl
    have hk := Lib.hid (fun w1 (h : Below ω.heap.size ω w1) => hK (.bool true) w1 rfl h)
    clear hK hu hc
    go_simp
    exact hk.out _ (Below.refl _ _)
  · refine calm_step_guard (g := 11) (b := true) (d := 47) rfl rfl (fun a w hc => hc 11 47 rfl rfl) fun a ω κ hb hu hc hK => ?_
    have h8 : a.tmps[8]?.getD undef = .int .i64 rc := (hu 8 rfl).trans e8
    have hk := Lib.hid (fun w1 (h : Below ω.heap.size ω w1) => hK (.int .i64 rc) w1 rfl h)
    clear hK hu hc
    go_simp
    exact hk.out _ (Below.refl _ _)
  · refine calm_step_guard (g := 11) (b := true) (d := 47) rfl rfl (fun a w hc => hc 11 47 rfl rfl) fun a ω κ hb hu hc hK => ?_
    have h10 : a.tmps[10]?.getD undef = .int .i64 rc := (hu 10 rfl).trans e10
    have hk := Lib.hid (fun w1 (h : Below ω.heap.size ω w1) => hK (.int .i64 rc) w1 rfl h)
    clear hK hu hc
    go_simp
    exact hk.out _ (Below.refl _ _)
  · refine calm_step_guard (g := 11) (b := true) (d := 47) rfl rfl (fun a w hc => hc 11 47 rfl rfl) fun a ω κ hb hu hc hK => ?_
    have h48 : a.tmps[48]?.getD undef = .int .i64 rc := hc 12 48 rfl rfl
    have h49 : a.tmps[49]?.getD undef = .int .i64 rc := hc 13 49 rfl rfl
    have hk := Lib.hid (fun w1 (h : Below ω.heap.size ω w1) => hK (.bool true) w1 rfl h)
    clear hK hu hc
    have q1 : (rc == rc) = true := by simp
    go_simp
    exact hk.out _ (Below.refl _ _)
  · refine calm_step rfl fun a ω κ hb hu hc hK => ?_
    have h47 : a.tmps[47]?.getD undef = .bool true := hc 11 47 rfl rfl
    have h50 : a.tmps[50]?.getD undef = .bool true := hc 14 50 rfl rfl
    have hk := Lib.hid (fun w1 (h : Below ω.heap.size ω w1) => hK (.bool true) w1 rfl h)
    clear hK hu hc
    go_simp
    exact hk.out _ (Below.refl _ _)
  · refine calm_step rfl fun a ω κ hb hu hc hK => ?_
    have h51 : a.tmps[51]?.getD undef = .bool true := hc 15 51 rfl rfl
    have hk := Lib.hid (fun w1 (h : Below ω.heap.size ω w1) => hK (.bool true) w1 rfl h)
    clear hK hu hc
    go_simp
    exact hk.out _ (Below.refl _ _)
  · refine calm_step_guard (g := 16) (b := true) (d := 52) rfl rfl (fun a w hc => hc 16 52 rfl rfl) fun a ω κ hb hu hc hK => ?_
    have h1 : a.tmps[1]?.getD undef = .slice A n c := (hu 1 rfl).trans e1
    have hk := Lib.hid (fun w1 (h : Below ω.heap.size ω w1) => hK (.slice A n c) w1 rfl h)
    clear hK hu hc
    go_simp
    exact hk.out _ (Below.refl _ _)
  · refine calm_step_guard (g := 16) (b := true) (d := 52) rfl rfl (fun a w hc => hc 16 52 rfl rfl) fun a ω κ hb hu hc hK => ?_
    have h53 : a.tmps[53]?.getD undef = .slice A n c := hc 17 53 rfl rfl
    have hk := Lib.hid (fun w1 (h : Below ω.heap.size ω w1) => hK (strW hx) w1 rfl h)
    clear hK hu hc
    go_simp
    go_at_call 16
    refine (hX1.out ω (hS.out ω hb).2.2.2.1).mono ?_
    rintro e w1 ⟨rfl, hb1⟩
    exact hk.out _ hb1
  · refine calm_step_guard (g := 16) (b := true) (d := 52) rfl rfl (fun a w hc => hc 16 52 rfl rfl) fun a ω κ hb hu hc hK => ?_
    have h1 : a.tmps[1]?.getD undef = .slice A n c := (hu 1 rfl).trans e1
    have hk := Lib.hid (fun w1 (h : Below ω.heap.size ω w1) => hK (.slice A n c) w1 rfl h)
    clear hK hu hc
    go_simp
    exact hk.out _ (Below.refl _ _)
  · refine calm_step_guard (g := 16) (b := true) (d := 52) rfl rfl (fun a w hc => hc 16 52 rfl rfl) fun a ω κ hb hu hc hK => ?_
    have h55 : a.tmps[55]?.getD undef = .slice A n c := hc 19 55 rfl rfl
    have hk := Lib.hid (fun w1 (h : Below ω.heap.size ω w1) => hK (strW hx) w1 rfl h)
    clear hK hu hc
    go_simp
    go_at_call 17
    refine (hX2.out ω (hS.out ω hb).2.2.2.1).mono ?_
    rintro e w1 ⟨rfl, hb1⟩
    exact hk.out _ hb1
  · refine calm_step_guard (g := 16) (b := true) (d := 52) rfl rfl (fun a w hc => hc 16 52 rfl rfl) fun a ω κ hb hu hc hK => ?_
    have h54 : a.tmps[54]?.getD undef = strW hx := hc 18 54 rfl rfl
    have h56 : a.tmps[56]?.getD undef = strW hx := hc 20 56 rfl rfl
    have hk := Lib.hid (fun w1 (h : Below ω.heap.size ω w1) => hK (.bool true) w1 rfl h)
    clear hK hu hc
    go_simp
    exact hk.out _ (Below.refl _ _)
  · refine calm_step rfl fun a ω κ hb hu hc hK => ?_
    have h52 : a.tmps[52]?.getD undef = .bool true := hc 16 52 rfl rfl
    have h57 : a.tmps[57]?.getD undef = .bool true := hc 21 57 rfl rfl
    have hk := Lib.hid (fun w1 (h : Below ω.heap.size ω w1) => hK (.bool true) w1 rfl h)
    clear hK hu hc
    go_simp
    exact hk.out _ (Below.refl _ _)
  · refine calm_step rfl fun a ω κ hb hu hc hK => ?_
    have h58 : a.tmps[58]?.getD undef = .bool true := hc 22 58 rfl rfl
    have hk := Lib.hid (fun w1 (h : Below ω.heap.size ω w1) => hK (.bool true) w1 rfl h)
    clear hK hu hc
    go_simp
    exact hk.out _ (Below.refl _ _)
  · refine calm_step_guard (g := 23) (b := true) (d := 59) rfl rfl (fun a w hc => hc 23 59 rfl rfl) fun a ω κ hb hu hc hK => ?_
    have h11 : a.tmps[11]?.getD undef = .slice A4 L.length c4 := (hu 11 rfl).trans e11
    have hk := Lib.hid (fun w1 (h : Below ω.heap.size ω w1) => hK (.slice A4 L.length c4) w1 rfl h)
    clear hK hu hc
    go_simp
    exact hk.out _ (Below.refl _ _)
  · refine calm_step_guard (g := 23) (b := true) (d := 59) rfl rfl (fun a w hc => hc 23 59 rfl rfl) fun a ω κ hb hu hc hK => ?_
    have h60 : a.tmps[60]?.getD undef = .slice A4 L.length c4 := hc 24 60 rfl rfl
    have hk := Lib.hid (fun w1 (h : Below ω.heap.size ω w1) => hK (strW L) w1 rfl h)
    clear hK hu hc
    have q8 := conv_txt (c := c4) (hS.out ω hb).2.2.2.2
    go_simp
    exact hk.out _ (Below.refl _ _)
  · refine calm_step_guard (g := 23) (b := true) (d := 59) rfl rfl (fun a w hc => hc 23 59 rfl rfl) fun a ω κ hb hu hc hK => ?_
    have h13 : a.tmps[13]?.getD undef = strW L := (hu 13 rfl).trans e13
    have hk := Lib.hid (fun w1 (h : Below ω.heap.size ω w1) => hK (strW L) w1 rfl h)
    clear hK hu hc
    go_simp
    exact hk.out _ (Below.refl _ _)
  · refine calm_step_guard (g := 23) (b := true) (d := 59) rfl rfl (fun a w hc => hc 23 59 rfl rfl) fun a ω κ hb hu hc hK => ?_
    have h61 : a.tmps[61]?.getD undef = strW L := hc 25 61 rfl rfl
    have h62 : a.tmps[62]?.getD undef = strW L := hc 26 62 rfl rfl
    have hk := Lib.hid (fun w1 (h : Below ω.heap.size ω w1) => hK (.bool true) w1 rfl h)
    clear hK hu hc
    go_simp
    exact hk.out _ (Below.refl _ _)
  · refine calm_step rfl fun a ω κ hb hu hc hK => ?_
    have h59 : a.tmps[59]?.getD undef = .bool true := hc 23 59 rfl rfl
    have h63 : a.tmps[63]?.getD undef = .bool true := hc 27 63 rfl rfl
    have hk := Lib.hid (fun w1 (h : Below ω.heap.size ω w1) => hK (.bool true) w1 rfl h)
    clear hK hu hc
    go_simp
    exact hk.out _ (Below.refl _ _)
  · refine calm_step rfl fun a ω κ hb hu hc hK => ?_
    have h64 : a.tmps[64]?.getD undef = .bool true := hc 28 64 rfl rfl
    have hk := Lib.hid (fun w1 (h : Below ω.heap.size ω w1) => hK (.bool true) w1 rfl h)
    clear hK hu hc
    go_simp
    exact hk.out _ (Below.refl _ _)
  · refine calm_step_guard (g := 29) (b := true) (d := 65) rfl rfl (fun a w hc => hc 29 65 rfl rfl) fun a ω κ hb hu hc hK => ?_
    have h12 : a.tmps[12]?.getD undef = .int .i64 hcode := (hu 12 rfl).trans e12
    have hk := Lib.hid (fun w1 (h : Below ω.heap.size ω w1) => hK (.int .i64 hcode) w1 rfl h)
    clear hK hu hc
    go_simp
    exact hk.out _ (Below.refl _ _)
  · refine calm_step_guard (g := 29) (b := true) (d := 65) rfl rfl (fun a w hc => hc 29 65 rfl rfl) fun a ω κ hb hu hc hK => ?_
    have h14 : a.tmps[14]?.getD undef = .int .i64 hcode := (hu 14 rfl).trans e14
    have hk := Lib.hid (fun w1 (h : Below ω.heap.size ω w1) => hK (.int .i64 hcode) w1 rfl h)
    clear hK hu hc
    go_simp
    exact hk.out _ (Below.refl _ _)
  · refine calm_step_guard (g := 29) (b := true) (d := 65) rfl rfl (fun a w hc => hc 29 65 rfl rfl) fun a ω κ hb hu hc hK => ?_
    have h66 : a.tmps[66]?.getD undef = .int .i64 hcode := hc 30 66 rfl rfl
    have h67 : a.tmps[67]?.getD undef = .int .i64 hcode := hc 31 67 rfl rfl
    have hk := Lib.hid (fun w1 (h : Below ω.heap.size ω w1) => hK (.bool true) w1 rfl h)
    clear hK hu hc
    have q1 : (hcode == hcode) = true := by simp
    go_simp
    exact hk.out _ (Below.refl _ _)
  · refine calm_step rfl fun a ω κ hb hu hc hK => ?_
    have h65 : a.tmps[65]?.getD undef = .bool true := hc 29 65 rfl rfl
    have h68 : a.tmps[68]?.getD undef = .bool true := hc 32 68 rfl rfl
    have hk := Lib.hid (fun w1 (h : Below ω.heap.size ω w1) => hK (.bool true) w1 rfl h)
    clear hK hu hc
    go_simp
    exact hk.out _ (Below.refl _ _)
  · refine calm_step rfl fun a ω κ hb hu hc hK => ?_
    have h69 : a.tmps[69]?.getD undef = .bool true := hc 33 69 rfl rfl
    have hk := Lib.hid (fun w1 (h : Below ω.heap.size ω w1) => hK (.bool true) w1 rfl h)
    clear hK hu hc
    go_simp
    exact hk.out _ (Below.refl _ _)
  · intro aa w' hb hu hsz hdf hc
    have h6 : aa.tmps[6]?.getD undef = .bool true := hc 34 6 rfl
    go_wp2
    exact ret_tmp rfl h6 (hdf.trans (by rw [← hha0.out])) ⟨rfl, below_step hb hL5 (Nat.le_refl _)⟩
end Go.Proofs.Ytjihklaocgmlpaa
