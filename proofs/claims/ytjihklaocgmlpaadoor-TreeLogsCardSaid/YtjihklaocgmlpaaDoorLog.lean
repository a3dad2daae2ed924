/- Contracts of the document's Peaks and of a log's Len, Peaks. -/
import Derived.Test.YtjihklaocgmlpaaDoorTreeV
import Derived.Test.YtjihklaocgmlpaaDoorTreeW
import Derived.Test.YtjihklaocgmlpaaDoorTreeR
namespace Go.Proofs.YtjihklaocgmlpaaDoor
open Go.ChangeShapes Go.WideShapes Go.ChangeAt Go.RowKit
set_option maxHeartbeats 1000000
set_option maxRecDepth 100000
attribute [local irreducible] arrV dgA sha
attribute [local go_sem ↓] load_o32 store_o32 execl_o32 execs_o32 load_e32 execl_e32 build_32 execb_32
attribute [local go_sem] isHead_mk isPart_mk offOf_mk blkOf_mk isAgg_mk cellsV_mk row_drew rowAt_drew row_new_cells row_old rowAt_new rowAt_old zeroD ldOk_drew ldC_drew
def peaksL (K : Nat → W32) (l : List Sb) : List (List UInt8) := pkP (nodeL K) (lvs K l)
theorem and_pow {m i : Nat} (h : m < 2 ^ (i + 1)) : m &&& 2 ^ i = if 2 ^ i ≤ m then 2 ^ i else 0 := by
  apply Nat.eq_of_testBit_eq
  intro j
  rw [Nat.testBit_and, Nat.testBit_two_pow]
  by_cases hc : 2 ^ i ≤ m
  · rw [if_pos hc, Nat.testBit_two_pow]
    have hb : m.testBit i = true := by
      rw [Nat.testBit_eq_decide_div_mod_eq]
      rw [Nat.pow_succ] at h
      have h1 : m / 2 ^ i = 1 := by
        apply Nat.div_eq_of_lt_le <;> omega
      simp [h1]
    by_cases hj : i = j
    · subst hj; simp [hb]
    · simp [hj]
  · rw [if_neg hc, Nat.zero_testBit]
    by_cases hj : i = j
    · subst hj; rw [Nat.testBit_lt_two_pow (by omega)]; rfl
    · simp [hj]
set_option maxHeartbeats 4000000 in
theorem ref_Peaks (K : Nat → W32) (l : List Sb) (A : Option Addr) (n c : Nat) (w : World) (hl : l.length = n) (hn : n ≤ 1000000) (hT : Tabs K w) (hI : Lf w A l c) :
    Calls Tryd.prog 12 #[.slice A n c] w fun e w' => ∃ v, e = .returned v ∧ OwnD w w.heap.size v (peaksL K l) w' := by
  have hT0 := Lib.hid hT
  have hI0 := Lib.hid hI
  have hHr := Lib.hid (show peaksL K l = [] ++ topP (nodeL K) (sha K []) 21 (lvs K l) from (top_pk 21 _ (by rw [lvs_len]; omega)).symm)
  generalize peaksL K l = r at *
  clear hT hI
  go_enter Tryd.func12, Tryd.ntmps12
  go_wp2_with fail
  go_loopw [0, 3, 4] (fun vl vo vn wr => ∃ (j m k d : Nat) (q : List Sb) (B : Option Addr) (R : List (List UInt8)), vl = .slice B m d ∧ vn = .int .i64 k ∧ q.length = m ∧ m ≤ 1000000 ∧ m ≤ d ∧ k = 2 ^ j / 2 ∧ j ≤ 21 ∧ m < 2 ^ j ∧ R.length + j ≤ 21 ∧ Hid (Lf w B q d) ∧ Hid (r = R ++ topP (nodeL K) (sha K []) j (lvs K q)) ∧ Hid (OwnD w w.heap.size vo R wr)) (fun _ _ vn _ => (intOf vn).toNat)
  case atStart => exact ⟨21, n, 1048576, c, l, A, [], rfl, rfl, hl, hn, hl ▸ hI0.out.le, rfl, by omega, by omega, by simp, hI0, hHr, Lib.hid (OwnD.start w)⟩
  case round =>
    obtain ⟨j, m, k, d, q, B, R, rfl, rfl, hq, hm6, hmd, hk, hj, hmj, hRj, hQ, hrt, hO⟩ := hrel
    cases j with
    | zero =>
      have hk0 : k = 0 := hk
      subst hk0
      have d1 : decide ((0 : Int) < ((0 : Nat) : Int)) = false := rfl
      have hfin := Lib.hid (show r = R by rw [hrt.out]; show R ++ [] = R; simp)
      clear hrt hk hmj
      rw [show ((0 : Nat) : Int) = (0 : Int) from rfl] at *
      go_wp2
      go_ret
      exact ⟨_, rfl, hfin.out ▸ hO.out⟩
    | succ i =>
      have hki : k = 2 ^ i := by rw [hk, Nat.pow_succ]; omega
      have hkp : 0 < k := by rw [hki]; exact Nat.pow_pos (by omega)
      have hk6 : k ≤ 1048576 := by rw [hki]; exact Nat.pow_le_pow_right (n := 2) (by omega) (show i ≤ 20 by omega)
      have hmk : m < 2 * k := by rw [hki]; rw [Nat.pow_succ] at hmj; omega
      have d1 : decide ((0 : Int) < (k : Int)) = true := by simp; omega
      have hand : bits .and .i64 (m : Int) (k : Int) = ((if k ≤ m then k else 0 : Nat) : Int) := by
        rw [i64_and_nat m k (by omega) (by omega), hki, and_pow hmj]
      have q1 : Int.tdiv (k : Int) 2 = ((k / 2 : Nat) : Int) := by rw [Int.tdiv_eq_ediv_of_nonneg (by omega)]; omega
      have q3 : IntKind.i64.wrap ((k / 2 : Nat) : Int) = ((k / 2 : Nat) : Int) := by rw [IntKind.wrap_i64]; omega
      have hTr := Lib.hid (hT0.out.step hO.out.bel)
      have hstep := Lib.hid (show topP (nodeL K) (sha K []) (i + 1) (lvs K q) = if k ≤ (lvs K q).length then root (nodeL K) (sha K []) ((lvs K q).take k) :: topP (nodeL K) (sha K []) i ((lvs K q).drop k) else topP (nodeL K) (sha K []) i (lvs K q) by rw [hki]; rfl)
      have hkd : k / 2 = 2 ^ i / 2 := by rw [hki]
      have hk2l : k / 2 < k := by omega
      by_cases hc : k ≤ m
      · rw [if_pos hc] at hand
        have hs0 := fun V => sl_to SLf B m d k (k : Nat) (by omega) (by omega) (by simp) V
        obtain ⟨B1, hs1, hs2⟩ := sl_from SLf B m d (m - k) (k : Nat) (by omega) (by omega) (by simp) (by omega)
        have hlt : (q.take k).length = k := by rw [List.length_take]; omega
        have hRt := Lib.hid (ref_Root K (q.take k) B k d wr hlt (by omega) hTr.out ((hQ.out.step hO.out.bel).take k))
        have hQ2 : Hid (Lf w B1 (q.drop k) (d - k)) := Lib.hid ⟨by
          rw [List.map_drop]
          have := hs2 _ _ (q.map Sb.cell) (by simp [hq]) hQ.out.cells
          simpa using this, fun x hx => hQ.out.body x (List.mem_of_mem_drop hx), by rw [List.length_drop]; omega, by have := hQ.out.mx; omega⟩
        have hxl := rootL_len K (q.take k)
        have hr2 : Hid (r = (R ++ [rootL K (q.take k)]) ++ topP (nodeL K) (sha K []) i (lvs K (q.drop k))) := Lib.hid (by
          rw [hrt.out, hstep.out, if_pos (by rw [lvs_len]; omega), List.append_assoc]
          unfold rootL lvs
          rw [List.map_take, List.map_drop]; rfl)
        have hcx := dgA_cells (rootL K (q.take k))
        have hH2 := Lib.hid hkd
        have hHmi := Lib.hid (show m - k < 2 ^ i by omega)
        have hld : (q.drop k).length = m - k := by rw [List.length_drop]; omega
        have e1 : ((k : Nat) : Int).toNat = k := by simp
        rw [e1] at hs1
        have hdk : m - k ≤ d - k := by omega
        have hm7 : m - k ≤ 1000000 := by omega
        clear hrt hstep hk hki hmj hkd hs2 hlt
        generalize k / 2 = k2 at *
        generalize rootL K (q.take k) = x at *
        generalize m - k = m2 at *
        generalize d - k = d2 at *
        go_wp2_with fail
        refine (hRt.out).mono ?_
        rintro e w2 ⟨rfl, hb2⟩
        have hO2 := Lib.hid (hO.out.step hb2)
        clear hO hb2 hRt hTr
        go_wp2_with (refine wpList_ownD1 (x := x) rfl (.tmp 14) (.tmp 19) rfl rfl hO2.out rfl hxl (by omega) ?_; intro v' w' hO3; have hHO3 := Lib.hid hO3; clear hO3)
        go_roundw
        case rel => exact ⟨i, m2, k2, d2, q.drop k, B1, R ++ [x], rfl, rfl, hld, hm7, hdk, hH2.out, by omega, hHmi.out, by simp; omega, hQ2, hr2, hHO3⟩
        case measure => simp [intOf]; omega
      · rw [if_neg hc] at hand
        have hr2 : Hid (r = R ++ topP (nodeL K) (sha K []) i (lvs K q)) := Lib.hid (by rw [hrt.out, hstep.out, if_neg (by rw [lvs_len]; omega)])
        have hH2 := Lib.hid hkd
        have hmi : m < 2 ^ i := by omega
        have hHmi := Lib.hid hmi
        clear hrt hstep hk hki hmj hkd hmi
        generalize k / 2 = k2 at *
        go_wp2
        go_roundw
        case rel => exact ⟨i, m, k2, d, q, B, R, rfl, rfl, hq, hm6, hmd, hH2.out, by omega, hHmi.out, by omega, hQ, hr2, hO⟩
        case measure => simp [intOf]; omega
/-- A log in block g: n leaves, the peaks P in a slice of its own; below g the world is as w0 was. -/
structure LogAt (w0 : World) (g n : Nat) (v : Value) (P : List (List UInt8)) (W : World) : Prop where
  c0 : W.cell? ⟨g, 0, none⟩ = some (.int .i64 (n : Nat))
  c1 : W.cell? ⟨g, 1, none⟩ = some v
  own : W.ownsRow (g + 1) 28 32 v P.length (flat P)
  all : ∀ x ∈ P, x.length = 32
  bel : Below g w0 W
  sz : g < W.heap.size
  fz : ∀ i, W.frozen? ⟨g, i, none⟩ = false
theorem log_Len (w0 : World) (g n : Nat) (v : Value) (P : List (List UInt8)) (w : World) (h : LogAt w0 g n v P w) :
    Calls Tryd.prog 7 #[.pointer (some ⟨g, 0, none⟩)] w fun e w' => e = .returned (.int .i64 (n : Nat)) ∧ w = w' := by
  have c0 := h.c0
  clear h
  go_enter Tryd.func7, Tryd.ntmps7
  go_wp2
  go_ret
  exact ⟨rfl, rfl⟩
theorem LogAt.form {w0 W : World} {g n : Nat} {v : Value} {P : List (List UInt8)} (h : LogAt w0 g n v P W) : ∃ A c, v = .slice A P.length c ∧ Pt W A P c := by
  have hO : OwnD W (g + 1) v P W := ⟨h.own, h.all, Below.refl _ _, h.sz⟩
  obtain ⟨A, c, rfl, -, -⟩ := hO.form
  exact ⟨A, c, rfl, hO.pt⟩
theorem flat_oneCell (P : List (List UInt8)) : ∀ u ∈ flat P, u.oneCell' = true := fun u hu => by
  obtain ⟨x, -, hx⟩ := List.mem_flatMap.1 hu
  exact bytesV_oneCell x u hx
theorem log_Peaks (w0 : World) (g n : Nat) (v : Value) (P : List (List UInt8)) (w : World) (h : LogAt w0 g n v P w) (hP : P.length ≤ 1000000) :
    Calls Tryd.prog 11 #[.pointer (some ⟨g, 0, none⟩)] w fun e w' => ∃ v', e = .returned v' ∧ OwnD w w.heap.size v' P w' := by
  have c1 := h.c1
  obtain ⟨A, c, rfl, hPt⟩ := h.form
  have hPt0 := Lib.hid hPt
  have hfl := flat_len hPt.all
  clear h hPt
  go_enter Tryd.func11, Tryd.ntmps11
  go_wp2_with (refine wpList_app rfl (.const (.slice none 0 0)) (.tmp 6) 23 rfl S32 rfl (World.ownsRow_nil _ w.heap.size _ _) rfl (by rw [hfl]; omega) hPt0.out.rd (flat_oneCell P) (by unfold maxLen; omega) (by omega) (Nat.le_refl _) ?_; intro v' w' hO3 hg3 ho3; have hHO3 := Lib.hid (And.intro hO3 (And.intro hg3 ho3)); clear hO3 hg3 ho3)
  go_ret
  obtain ⟨h1, h2, h3⟩ := hHO3.out
  refine ⟨_, rfl, ⟨by simpa using h1, hPt0.out.all, (Below.refl _ _).grown h2 (Nat.le_refl _) (fun k hk => by cases hk), h2.size⟩⟩
end Go.Proofs.YtjihklaocgmlpaaDoor
