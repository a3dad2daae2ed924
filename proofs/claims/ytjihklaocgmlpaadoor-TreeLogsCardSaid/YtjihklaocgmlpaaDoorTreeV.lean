/- Contracts of the document's Root and Path. -/
import Derived.Test.YtjihklaocgmlpaaDoorTreeU
import Derived.Test.YtjihklaocgmlpaaDoorTree5
namespace Go.Proofs.YtjihklaocgmlpaaDoor
open Go.ChangeShapes Go.WideShapes Go.ChangeAt Go.RowKit
set_option maxHeartbeats 1000000
set_option maxRecDepth 100000
attribute [local irreducible] arrV dgA sha
attribute [local go_sem ↓] load_o32 store_o32 execl_o32 execs_o32 load_e32 execl_e32 build_32 execb_32
attribute [local go_sem] isHead_mk isPart_mk offOf_mk blkOf_mk isAgg_mk cellsV_mk row_drew rowAt_drew row_new_cells row_old rowAt_new rowAt_old zeroD ldOk_drew ldC_drew

theorem OwnD.addr {w0 W : World} {B : Nat} {A : Option Addr} {n c : Nat} {P : List (List UInt8)} (h : OwnD w0 B (.slice A n c) P W) : ∀ a, A = some a → B ≤ a.block := fun a ha => by
  rcases h.own.2 with ⟨h1, -⟩ | ⟨g, cap, cur, h1, h2, -⟩
  · injection h1 with h1
    rw [h1] at ha; cases ha
  · injection h1 with h1
    rw [h1] at ha
    injection ha with ha
    rw [← ha]; exact h2
theorem OwnD.apart {w0 W W2 : World} {B n c : Nat} {v : Value} {A : Option Addr} {R P : List (List UInt8)} (h : OwnD w0 B v R W) (h2 : OwnD W W.heap.size (.slice A n c) P W2) : Apart v A := fun g hg a ha => by
  have h3 := (h.own.lt g hg).2
  have h4 := h2.addr a ha
  omega
theorem rsum0 {K : Nat → W32} {w : World} (hT : Tabs K w) : Calls Tryd.prog 32 #[.string { data := #[] }] w fun e w' => e = .returned (.agg (dgA (sha K []))) ∧ Below w.heap.size w w' := rsumD (l := []) hT (by simp)
set_option maxHeartbeats 4000000 in
theorem ref_Root (K : Nat → W32) (l : List Sb) (A : Option Addr) (n c : Nat) (w : World) (hl : l.length = n) (hn : n ≤ 1000000) (hT : Tabs K w) (hI : Lf w A l c) :
    Calls Tryd.prog 9 #[.slice A n c] w fun e w' => e = .returned (.agg (dgA (rootL K l))) ∧ Below w.heap.size w w' := by
  have hcz := dgA_cells []
  have hL0 := below_alloc w (Obj.cells (dgA []) 28)
  have hR0 : Row (w.alloc (Obj.cells (dgA []) 28)) w.heap.size 32 := (row_new rfl).2 hcz.1
  have hT0 := Lib.hid (hT.step hL0)
  have hI0 := Lib.hid (hI.step hL0)
  obtain ⟨r, hr⟩ : ∃ r, rootL K l = r := ⟨_, rfl⟩
  rw [hr]
  clear hT hI
  go_enter Tryd.func9, Tryd.ntmps9
  by_cases h0 : n = 0
  · subst h0
    obtain rfl := List.eq_nil_of_length_eq_zero hl
    obtain rfl : sha K [] = r := hr
    have hcs := dgA_cells (sha K [])
    go_wp2_with fail
    generalize w.alloc (Obj.cells (dgA []) 28) = W0 at *
    refine (rsum0 (K := K) hT0.out).mono ?_
    rintro e w1 ⟨rfl, hb1⟩
    have hL1 := below_step hb1 hL0 (Nat.le_refl _)
    have hR1 := row_below hR0 hb1 hR0.lt
    clear hb1 hL0 hR0 hT0 hI0
    go_wp2
    exact ret_stored (p := 2) (ty := 28) (g := w.heap.size) (n := 32) (c := dgA (sha K [])) rfl Tryd.underlying28 rfl (by kernel_rfl) rfl hR1 hcs.1 rfl ⟨rfl, below_setRow hL1 (Nat.le_refl _)⟩
  have d0 : ((n : Int) == 0) = false := by simp; omega
  have hlv := Lib.hid (fun V (h1 : Tabs K V) (h2 : Lf V A l c) => ref_leaves K l A n c V hl hn h1 h2)
  have hll : (lvs K l).length = n := by rw [lvs_len]; exact hl
  have hla := Lib.hid (lvs_all K l)
  go_wp2_with fail
  generalize w.alloc (Obj.cells (dgA []) 28) = W0 at *
  refine (hlv.out _ hT0.out hI0.out).mono ?_
  rintro e w1 ⟨v, rfl, hO1⟩
  obtain ⟨A1, c1, rfl, hc1, hc1m⟩ := hO1.form
  rw [hll]
  rw [hll] at hc1
  have hP1 := Lib.hid hO1.pt
  have hb1 := hO1.bel
  have hT1 := Lib.hid (hT0.out.step hb1)
  have hL1 := below_step hb1 hL0 (Nat.le_refl _)
  have hR1 := row_below hR0 hb1 hR0.lt
  have hP2 : Hid (Pt w1 A1 (lvs K l) c1) := hP1
  have hHr := Lib.hid (show r = root (nodeL K) (sha K []) (lvs K l) from hr.symm)
  generalize lvs K l = P at *
  clear hO1 hL0 hR0 hI0 hlv hP1 hb1 hr hT0
  go_wp2_with fail
  go_loopw [3] (fun v wr => ∃ (N : Nat) (Q : List (List UInt8)) (B : Option Addr) (d : Nat), v = .slice B N d ∧ Q.length = N ∧ 1 ≤ N ∧ N ≤ 1000000 ∧ N ≤ d ∧ Hid (Pt wr B Q d) ∧ Hid (r = root (nodeL K) (sha K []) Q) ∧ Below w1.heap.size w1 wr) (fun v _ => match v with | .slice _ N _ => N | _ => 0)
  case atStart => exact ⟨n, P, A1, c1, rfl, hll, by omega, hn, hc1, hP2, hHr, Below.refl _ _⟩
  case round =>
    clear hP2 hHr hll hla hc1 hc1m
    obtain ⟨N, Q, B, d, rfl, hQ, hN1, hN6, hNd, hQt, hrt, hb⟩ := hrel
    have hLr := below_step hb hL1 (Nat.le_refl _)
    have hRr := row_below hR1 hb hR1.lt
    have hTr := Lib.hid (hT1.out.step hb)
    by_cases h1 : N = 1
    · subst h1
      have d1 : decide ((1 : Int) < ((1 : Nat) : Int)) = false := rfl
      match Q, hQ with
      | [x], _ =>
      obtain ⟨ad, rfl, a1, a2⟩ := Pt.cons hQt.out
      have hcx := dgA_cells x
      have hfin := Lib.hid (show r = x from hrt.out)
      clear hrt hQt
      go_wp2
      exact ret_stored (p := 2) (ty := 28) (g := w.heap.size) (n := 32) (c := dgA x) rfl Tryd.underlying28 rfl (by kernel_rfl) rfl hRr hcx.1 rfl ⟨by rw [hfin.out], below_setRow hLr (Nat.le_refl _)⟩
    · have d1 : decide ((1 : Int) < (N : Int)) = true := by simp; omega
      have hfl := Lib.hid (ref_floor K Q B N d wr hQ hN6 hTr.out hQt.out)
      have hln : (floorL (nodeL K) Q).length = (N + 1) / 2 := by rw [floorL_len, hQ]
      have hup := Lib.hid (hrt.out.trans (root_up' Q))
      generalize floorL (nodeL K) Q = Q2 at *
      clear hrt hQt
      go_wp2_with fail
      refine (hfl.out).mono ?_
      rintro e w2 ⟨v, rfl, hO2⟩
      obtain ⟨A2, c2, rfl, hc2, hc2m⟩ := hO2.form
      have hP2 := Lib.hid hO2.pt
      have hb2 := below_step hO2.bel hb (Nat.le_refl _)
      clear hO2
      go_wp2_with fail
      go_roundw
      case rel => exact ⟨(N + 1) / 2, Q2, A2, c2, rfl, hln, by omega, by omega, by omega, hP2, hup, hb2⟩
      case measure => show (N + 1) / 2 < N; omega
theorem ref_Path_no (A : Option Addr) (n c : Nat) (i : Int) (w : World) (h : ¬ (0 ≤ i ∧ i < n)) :
    Calls Tryd.prog 15 #[.slice A n c, .int .i64 i] w fun e w' => e = .returned (.tuple #[.slice none 0 0, .int .i64 1]) ∧ Below w.heap.size w w' := by
  have hL0 := Below.refl w.heap.size w
  by_cases h1 : i < 0
  · have d1 : decide (i < 0) = true := by simpa using h1
    go_enter Tryd.func15, Tryd.ntmps15
    go_wp2
    go_ret2
    exact ⟨rfl, hL0⟩
  · have d1 : decide (i < 0) = false := by simpa using h1
    have d2 : decide ((n : Int) ≤ i) = true := by simp; omega
    go_enter Tryd.func15, Tryd.ntmps15
    go_wp2
    go_ret2
    exact ⟨rfl, hL0⟩
set_option maxHeartbeats 4000000 in
theorem ref_Path (K : Nat → W32) (l : List Sb) (A : Option Addr) (n c i : Nat) (w : World) (hl : l.length = n) (hn : n ≤ 1000000) (hi : i < n) (hT : Tabs K w) (hI : Lf w A l c) :
    Calls Tryd.prog 15 #[.slice A n c, .int .i64 i] w fun e w' => ∃ v, e = .returned (.tuple #[v, .int .i64 0]) ∧ OwnD w w.heap.size v (pathL K l i) w' := by
  have hT0 := Lib.hid hT
  have d1 : decide ((i : Int) < 0) = false := by simp
  have d2 : decide ((n : Int) ≤ (i : Int)) = false := by simp; omega
  have hlv := Lib.hid (ref_leaves K l A n c w hl hn hT hI)
  have hll : (lvs K l).length = n := by rw [lvs_len]; exact hl
  have hpn := pathL_len K l i
  rw [hl] at hpn
  obtain ⟨r, hr⟩ : ∃ r, pathL K l i = r := ⟨_, rfl⟩
  rw [hr] at hpn ⊢
  have hHr := Lib.hid (show r = path (nodeL K) (lvs K l) i from hr.symm)
  clear hT hI hr
  go_enter Tryd.func15, Tryd.ntmps15
  go_wp2_with fail
  refine (hlv.out).mono ?_
  rintro e w1 ⟨v, rfl, hO1⟩
  obtain ⟨A1, c1, rfl, hc1, hc1m⟩ := hO1.form
  rw [hll]
  rw [hll] at hc1
  have hP1 := Lib.hid hO1.pt
  have hb1 := hO1.bel
  have hT1 := Lib.hid (hT0.out.step hb1)
  have hP2 : Hid (Pt w1 A1 (lvs K l) c1) := hP1
  have hS := Lib.hid ((OwnD.start w).step hb1)
  generalize lvs K l = P at *
  clear hO1 hlv hP1
  go_wp2_with fail
  go_loopw [1, 6, 7] (fun vi vo v wr => ∃ (N j : Nat) (Q R : List (List UInt8)) (B : Option Addr) (d : Nat), vi = .int .i64 j ∧ v = .slice B N d ∧ Q.length = N ∧ j < N ∧ N ≤ 1000000 ∧ N ≤ d ∧ R.length + N ≤ n ∧ Hid (Pt wr B Q d) ∧ Hid (r = R ++ path (nodeL K) Q j) ∧ Hid (OwnD w w.heap.size vo R wr) ∧ Hid (Apart vo B)) (fun _ _ v _ => match v with | .slice _ N _ => N | _ => 0)
  case atStart => exact ⟨n, i, P, [], A1, c1, rfl, rfl, hll, hi, hn, hc1, by simp, hP2, hHr, hS, Lib.hid (fun g hg => by cases hg)⟩
  case round =>
    clear hP2 hHr hll hc1 hc1m hS
    obtain ⟨N, j, Q, R, B, d, rfl, rfl, hQ, hjN, hN6, hNd, hRl, hQt, hrt, hO, hAp⟩ := hrel
    have hTr := Lib.hid (hT0.out.step hO.out.bel)
    by_cases h1 : N = 1
    · subst h1
      have d1 : decide ((1 : Int) < ((1 : Nat) : Int)) = false := rfl
      have hfin := Lib.hid (show r = R by rw [hrt.out, path_one (by omega), List.append_nil])
      clear hrt hQt
      go_wp2
      go_ret2
      exact ⟨_, rfl, hfin.out ▸ hO.out⟩
    · have d1 : decide ((1 : Int) < (N : Int)) = true := by simp; omega
      have hx : bits .xor .i64 (j : Int) 1 = (beside j : Nat) := by
        have := i64_xor_nat j 1 (by omega) (by omega)
        rw [xor_one] at this
        exact this
      have hbl : beside j ≤ j + 1 := by unfold beside; split <;> omega
      have q1 : Int.tdiv (j : Int) 2 = ((j / 2 : Nat) : Int) := by rw [Int.tdiv_eq_ediv_of_nonneg (by omega)]; omega
      have q3 : IntKind.i64.wrap ((j / 2 : Nat) : Int) = ((j / 2 : Nat) : Int) := by rw [IntKind.wrap_i64]; omega
      have z1 : (0 : Int) ≤ (j : Int) := by omega
      have z2 : (j : Int) ≤ 65536000 := by omega
      have hln : (floorL (nodeL K) Q).length = (N + 1) / 2 := by rw [floorL_len, hQ]
      have hup := Lib.hid (hrt.out.trans (congrArg (R ++ ·) (path_up (node := nodeL K) (l := Q) (by omega) j)))
      have hfl := Lib.hid (fun V (h1 : Tabs K V) (h2 : Pt V B Q d) => ref_floor K Q B N d V hQ hN6 h1 h2)
      have hj2 : j / 2 < (N + 1) / 2 := by omega
      by_cases hb : beside j < N
      · have d3 : decide (((beside j : Nat) : Int) < (N : Int)) = true := by simp; exact hb
        have hlt : ((beside j : Nat) : Int) < (N : Int) := by omega
        have hz : (0 : Int) ≤ ((beside j : Nat) : Int) := by omega
        obtain ⟨ad, x, rfl, hqx, hxl⟩ := hQt.out.some_ (i := beside j) (by omega)
        have a1 := el_ok hQt.out.rd hQt.out.all hqx
        have a2 := el_ld hQt.out.rd hQt.out.all hqx
        have hcx := dgA_cells x
        have hup2 : Hid (r = (R ++ [x]) ++ path (nodeL K) (floorL (nodeL K) Q) (j / 2)) := Lib.hid (by
          rw [hup.out]
          unfold sib
          rw [hqx, List.append_assoc])
        generalize beside j = bj at *
        generalize j / 2 = j2 at *
        generalize floorL (nodeL K) Q = Q2 at *
        have hHqx := Lib.hid hqx
        clear hrt hqx hup
        have hAd : ad.block < wr.heap.size := by
          obtain ⟨ad', e, h2, -⟩ := hQt.out.rd (32 * bj) (.int .u8 (bytesF x 0 : Int)) (by
            refine flat_at hQt.out.all hHqx.out 0 _ ?_
            simp [bytesV, bytesF, List.getElem?_eq_getElem (show 0 < x.length by omega)])
          injection e with e
          rw [e]; exact h2
        go_wp2_with (refine wpList_ownD2 (x := x) rfl (.tmp 30) (.tmp 35) rfl rfl hO.out rfl hxl (by omega) ?_; intro v' w' hO3 hg3 ho3; have hHO3 := Lib.hid (And.intro hO3 (And.intro hg3 ho3)); clear hO3 hg3 ho3)
        obtain ⟨hO3, hg3, ho3⟩ := hHO3.out
        have hQ3 : Pt w' (some ad) Q d := pt_grown (hQt.out.step (below_alloc wr _)) hg3 hAp.out
        have hT3 := hT0.out.step hO3.bel
        refine (hfl.out w' hT3 hQ3).mono ?_
        rintro e w2 ⟨v, rfl, hO2⟩
        have hO4 := hO3.step hO2.bel
        obtain ⟨A2, c2, rfl, hc2, hc2m⟩ := hO2.form
        have hAp2 := Lib.hid (hO3.apart hO2)
        have hP2 := Lib.hid hO2.pt
        have hO5 := Lib.hid hO4
        clear hO2 hO3 hO4 hg3 ho3 hHO3 hQ3 hT3
        go_wp2_with fail
        go_roundw
        case rel => exact ⟨(N + 1) / 2, j2, Q2, R ++ [x], A2, c2, rfl, rfl, hln, hj2, by omega, by omega, by simp; omega, hP2, hup2, hO5, hAp2⟩
        case measure => show (N + 1) / 2 < N; omega
      · have d3 : decide (((beside j : Nat) : Int) < (N : Int)) = false := by simp; omega
        have hup2 : Hid (r = R ++ path (nodeL K) (floorL (nodeL K) Q) (j / 2)) := Lib.hid (by
          rw [hup.out]
          unfold sib
          rw [List.getElem?_eq_none (by omega)]
          rfl)
        have hF := Lib.hid (hfl.out wr hTr.out hQt.out)
        generalize beside j = bj at *
        generalize j / 2 = j2 at *
        generalize floorL (nodeL K) Q = Q2 at *
        clear hrt hup hfl hQt
        go_wp2_with fail
        refine (hF.out).mono ?_
        rintro e w2 ⟨v, rfl, hO2⟩
        have hO4 := hO.out.step hO2.bel
        obtain ⟨A2, c2, rfl, hc2, hc2m⟩ := hO2.form
        have hAp2 := Lib.hid (hO.out.apart hO2)
        have hP2 := Lib.hid hO2.pt
        have hO5 := Lib.hid hO4
        clear hO2 hO4
        go_wp2_with fail
        go_roundw
        case rel => exact ⟨(N + 1) / 2, j2, Q2, R, A2, c2, rfl, rfl, hln, hj2, by omega, by omega, by omega, hP2, hup2, hO5, hAp2⟩
        case measure => show (N + 1) / 2 < N; omega
end Go.Proofs.YtjihklaocgmlpaaDoor
