/- LoginPlays: the law's function returns true. -/
import Derived.Test.YtdlmamnnamlleaaLg9
import Derived.Test.YtdlmamnnamlleaaLg11
import Derived.Test.YtdlmamnnamlleaaIntEq
import Derived.Deep.RegionLaw
namespace Go.Proofs.Ytdlmamnnamlleaa
open Go.ChangeShapes Go.WideShapes Go.ChangeAt Go.RowKit
set_option maxHeartbeats 1000000
set_option maxRecDepth 100000

theorem sits_any (B g bm gt : Nat) (most last who k id n : Int) (l : List (Int × Bool)) (v : Value) (w : World) (h : SitAt w B g bm gt most last who l v) (hid : (Lit.int .i64 id).wf = true) (hll : l.length ≤ 1000) (hla : last < 1000000) :
    Calls Try.prog 38 #[.pointer (some ⟨g, 0, none⟩), .pointer (some ⟨gt, 0, none⟩), .int .i64 most, .agg #[.int .i64 k, .int .i64 id, .int .i64 n]] w (SitsR B g bm gt most last l w) := by
  by_cases h1 : k = 1
  · subst h1; exact sits_1 B g bm gt most last who id n l v w h hid hll hla
  by_cases h2 : k = 2
  · subst h2; exact sits_2 B g bm gt most last who id n l v w h hid hll hla
  by_cases h3 : k = 3
  · subst h3; exact sits_3 B g bm gt most last who id n l v w h hid hll hla
  by_cases h4 : k = 4
  · subst h4; exact sits_4 B g bm gt most last who id n l v w h hid hll hla
  by_cases h5 : k = 5
  · subst h5; exact sits_5 B g bm gt most last who id n l v w h hid hll hla
  exact sits_6 B g bm gt most last who k id n l v w h ⟨h1, h2, h3, h4, h5⟩ hid hll hla
def stC (p : Int × Int × Int) : List Value := [.int .i64 p.1, .int .i64 p.2.1, .int .i64 p.2.2]
theorem st_cells (l : List (Int × Int × Int)) (k : Nat) : (l.flatMap stC)[k * 3]? = (l[k]?).map (fun x => .int .i64 x.1) ∧ (l.flatMap stC)[k * 3 + 1]? = (l[k]?).map (fun x => .int .i64 x.2.1) ∧ (l.flatMap stC)[k * 3 + 2]? = (l[k]?).map (fun x => .int .i64 x.2.2) := by
  induction l generalizing k with
  | nil => simp
  | cons x r ih =>
    cases k with
    | zero => simp [stC]
    | succ k =>
      obtain ⟨h1, h2, h3⟩ := ih k
      rw [List.flatMap_cons, show (k + 1) * 3 = k * 3 + 1 + 1 + 1 by omega]
      exact ⟨h1, h2, h3⟩
theorem st_at {w : World} {B : Nat} {A : Option Addr} {l : List (Int × Int × Int)} (h : Rd w B A (l.flatMap stC)) {k : Nat} (hk : k < l.length) :
    ∃ ad, A = some ad ∧ ad.block < B ∧ w.cell? (ad.add (k * 3)) = some (.int .i64 l[k].1) ∧ w.cell? ⟨(ad.add (k * 3)).block, (ad.add (k * 3)).off + 1, none⟩ = some (.int .i64 l[k].2.1) ∧ w.cell? ⟨(ad.add (k * 3)).block, (ad.add (k * 3)).off + 2, none⟩ = some (.int .i64 l[k].2.2) := by
  obtain ⟨h1, h2, h4⟩ := st_cells l k
  rw [List.getElem?_eq_getElem hk] at h1 h2 h4
  obtain ⟨ad, rfl, hb, c1⟩ := h _ _ h1
  exact ⟨ad, rfl, hb, c1, by have h3 := h.all h2; rw [← addr_add] at h3; exact h3, by have h3 := h.all h4; rw [← addr_add] at h3; unfold Addr.add at h3; exact h3⟩

theorem SInt4 : SlT Try.prog 33 3 1 8 := SlT.mk' Try.underlying33 (by kernel_rfl) (by omega)
def SRel.keys (ks : List Int) : SRel := ⟨fun v w => ∃ A c, v = .slice A ks.length c ∧ Rd w w.heap.size A (izV ks), fun _ _ _ hb ⟨A, c, h1, h2⟩ => ⟨A, c, h1, (h2.below hb).more hb.size⟩⟩
set_option maxHeartbeats 8000000 in
theorem loginPlays_out (most : Int) (S : Option Addr) (st : List (Int × Int × Int)) (c : Nat) (w : World) (hs : st.length ≤ 60) (hm : most < 1 ∨ 16 < most) :
    Calls Try.prog 7 #[.int .i64 most, .slice S st.length c] w fun e w' => e = .returned (.bool true) ∧ Below w.heap.size w w' := by
  have hs1 : (st.length : Int) ≤ 60 := by omega
  have hc := Lib.hid (login_New most w hm)
  have hbr := Lib.hid (Below.refl w.heap.size w)
  rcases hm with hm | hm
  all_goals
    go_enter Try.func7, Try.ntmps7
    go_wp2_with fail
    refine hc.out.mono ?_
    rintro e w1 ⟨rfl, rfl⟩
    go_wp2
    go_ret
    exact ⟨ret_bool (by simp), hbr.out⟩
set_option maxHeartbeats 8000000 in
theorem loginPlays_in (most : Int) (S : Option Addr) (st : List (Int × Int × Int)) (c : Nat) (w : World) (hS : Rd w w.heap.size S (st.flatMap stC)) (hwf : ∀ p ∈ st, (Lit.int .i64 p.2.1).wf = true) (hs : st.length ≤ 60) (hm : 1 ≤ most ∧ most ≤ 16) :
    Calls Try.prog 7 #[.int .i64 most, .slice S st.length c] w fun e w' => e = .returned (.bool true) ∧ Below w.heap.size w w' := by
  have hs1 : (st.length : Int) ≤ 60 := by omega
  have hc := Lib.hid (login_New_ok most w hm.1 hm.2)
  obtain ⟨hm1, hm2⟩ := hm
  have hH := Lib.hid (And.intro hS hwf)
  have hm1' : ¬ most < 1 := by omega
  have hm2' : ¬ (16 : Int) < most := by omega
  clear hS hwf
  go_enter Try.func7, Try.ntmps7
  go_wp2_with fail
  refine hc.out.mono ?_
  rintro e wA ⟨g, bm, rfl, hd, hg1, hg2, hb1⟩
  go_wp2
  go_loopw [43] (fun x wr => ∃ n : Nat, ∃ l last who v, x = .int .i64 n ∧ n ≤ st.length ∧ SitAt wr w.heap.size g bm wA.heap.size most last who l v ∧ last ≤ n ∧ l.length ≤ n ∧ Below w.heap.size w wr) (fun x _ => st.length - (intOf x).toNat)
  case atStart =>
    have hb2 := below_alloc' wA
    refine ⟨0, [], 0, 0, .slice none 0 0, rfl, Nat.zero_le _, ⟨hd.step (hb2 _), ⟨?_, ?_, ?_, fun i => ?_, ?_⟩, World.ownsRow_nil _ _ _ _, ?_, ?_, fun b e => by simp [Value.ownBlock] at e, hg1, hg2, hb1.size, by omega, by omega, fun p hp => by simp at hp⟩, by omega, by simp, below_step (hb2 _) hb1 (Nat.le_refl _)⟩
    · rw [World.cell?_alloc_at _ _ _ _ rfl]; rfl
    · rw [World.cell?_alloc_at _ _ _ _ rfl]; rfl
    · rw [World.cell?_alloc_at _ _ _ _ rfl]; rfl
    · rw [World.frozen?_alloc_at _ _ _ _ rfl]
    · simp
    · have := hd.lt; omega
    · exact fun e => desk_bm hd e.symm
  case round =>
    obtain ⟨n, l, last, who, v, rfl, hn, hs, hla, hll, hbW⟩ := hrel
    by_cases hne : n = st.length
    · subst hne
      go_wp2
      go_ret
      exact ⟨ret_bool (by simp), hbW⟩
    · have hlt : n < st.length := by omega
      have hSr := (hH.out.1.below hbW).more hbW.size
      obtain ⟨ad, rfl, hbl, q1, q2, q3⟩ := st_at hSr hlt
      have hwf := Lib.hid (hH.out.2 _ (List.getElem_mem hlt))
      have hlt2 : (n : Int) < (st.length : Int) := by omega
      have hb3 := below_alloc' wr
      have hs3 := Lib.hid (fun o => hs.step (hb3 o))
      have hL3 := Lib.hid (fun o => below_step (hb3 o) hbW (Nat.le_refl _))
      clear hb3 hSr hbW hs
      go_wp2_with fail
      refine (sits_any w.heap.size g bm wA.heap.size most last who st[n].1 st[n].2.1 st[n].2.2 l v _ (hs3.out _) hwf.out (by omega) (by omega)).mono ?_
      rintro e w4 ⟨rfl, last4, who4, l4, v4, hs4, hla4, hll4, hb4⟩
      have hL4 := Lib.hid (Below.trans (hL3.out _) hb4)
      obtain ⟨A4, c4, e4⟩ := own_formI hs4.own
      subst e4
      have hs4H := Lib.hid hs4
      obtain ⟨u0, u1, u2, uf, ult⟩ := hs4.tok
      clear hs4 hL3 hs3 hb4 q1 q2 q3
      go_wp2
      go_loopw [10, 58] (fun v x wr2 => ∃ j : Nat, x = .int .i64 j ∧ j ≤ l4.length ∧ Own w4 w4.heap.size 3 v (izV ((l4.take j).map (·.1))) wr2) (fun _ x _ => l4.length - (intOf x).toNat)
      case atStart => exact ⟨0, rfl, Nat.zero_le _, Own.start w4 _⟩
      case round =>
        obtain ⟨j, rfl, hj, hO⟩ := hrel
        obtain ⟨A5, c5, e5, -, -⟩ := hO.form
        rw [izV_len, List.length_map, List.length_take, Nat.min_eq_left hj] at e5
        subst e5
        have hs6 := Lib.hid (hs4H.out.step (w' := ‹World›) hO.bel)
        by_cases hje : j = l4.length
        · subst hje
          rw [List.take_length] at hO
          have hr6 := Lib.hid hO.rd
          have hL6 := Lib.hid (below_step hO.bel hL4.out (Nat.le_refl _))
          have hl6 := Lib.hid (show l4.length ≤ 100 from by omega)
          have hn6 := Lib.hid (show n < st.length ∧ last4 ≤ (n : Int) + 1 ∧ l4.length ≤ n + 1 from ⟨hlt, by omega, by omega⟩)
          clear hO
          go_upto_region 20 with (fail)
          generalize ha0 : Act.mk _ _ = a0
          have e5 : a0.tmps[5]?.getD undef = .pointer (some ⟨g, 0, none⟩) := by rw [← ha0]; rfl
          have e7 : a0.tmps[7]?.getD undef = .pointer (some ⟨wA.heap.size, 0, none⟩) := by rw [← ha0]; rfl
          have e10 : a0.tmps[10]?.getD undef = .slice A5 l4.length c5 := by rw [← ha0]; rfl
          have hz0 : a0.tmps.size = 83 := by rw [← ha0]; rfl
          have hha0 := Lib.hid ha0
          clear ha0
          refine wp_region_calm (fun jx_ => match jx_ with | 0 => SRel.is (.pointer (some ⟨g, 0, none⟩)) | 1 => SRel.is (.int .i64 who4) | 2 => SRel.is (.pointer (some ⟨wA.heap.size, 0, none⟩)) | 3 => SRel.is (.pointer (some ⟨wA.heap.size, 0, none⟩)) | 4 => SRel.is (.pointer (some ⟨wA.heap.size, 70, none⟩)) | 5 => SRel.is (.int .i64 who4) | 6 => SRel.is (.bool false) | 7 => SRel.is (.bool false) | 8 => SRel.is (.pointer (some ⟨g, 0, none⟩)) | 9 => SRel.keys (l4.map (·.1)) | 10 => SRel.is (.slice A5 l4.length c5) | 11 => SRel.is (.bool true) | 12 => SRel.is (.bool false) | 13 => SRel.is (.bool false) | _ => SRel.any) (by kernel_rfl) (by kernel_rfl) (by kernel_rfl) (slotsOk_of hz0 (by kernel_rfl)) ⟨?_, ?_, ?_, ?_, ?_, ?_, ?_, ?_, ?_, ?_, ?_, ?_, ?_, ?_, trivial⟩ ?_
          · refine calm_step rfl fun a ω κ hb hu hc hK => ?_
            have h5 : a.tmps[5]?.getD undef = .pointer (some ⟨g, 0, none⟩) := (hu 5 rfl).trans e5
            have hk := Lib.hid (fun w1 (h : Below ω.heap.size ω w1) => hK (.pointer (some ⟨g, 0, none⟩)) w1 rfl h)
            clear hK hu hc
            go_simp
            exact hk.out _ (Below.refl _ _)
          · refine calm_step rfl fun a ω κ hb hu hc hK => ?_
            have h68 : a.tmps[68]?.getD undef = .pointer (some ⟨g, 0, none⟩) := hc 0 68 rfl rfl
            have hk := Lib.hid (fun w1 (h : Below ω.heap.size ω w1) => hK (.int .i64 who4) w1 rfl h)
            clear hK hu hc
            go_simp
            go_at_call 39
            refine (desk_Who g bm most last4 who4 l4 ω (hs6.out.step hb).desk).mono ?_
            rintro e w9 ⟨rfl, rfl⟩
            exact hk.out _ (Below.refl _ _)
          · refine calm_step rfl fun a ω κ hb hu hc hK => ?_
            have h7 : a.tmps[7]?.getD undef = .pointer (some ⟨wA.heap.size, 0, none⟩) := (hu 7 rfl).trans e7
            have hk := Lib.hid (fun w1 (h : Below ω.heap.size ω w1) => hK (.pointer (some ⟨wA.heap.size, 0, none⟩)) w1 rfl h)
            clear hK hu hc
            go_simp
            exact hk.out _ (Below.refl _ _)
          · refine calm_step rfl fun a ω κ hb hu hc hK => ?_
            have h70 : a.tmps[70]?.getD undef = .pointer (some ⟨wA.heap.size, 0, none⟩) := hc 2 70 rfl rfl
            have hk := Lib.hid (fun w1 (h : Below ω.heap.size ω w1) => hK (.pointer (some ⟨wA.heap.size, 0, none⟩)) w1 rfl h)
            clear hK hu hc
            go_simp
            exact hk.out _ (Below.refl _ _)
          · refine calm_step rfl fun a ω κ hb hu hc hK => ?_
            have h71 : a.tmps[71]?.getD undef = .pointer (some ⟨wA.heap.size, 0, none⟩) := hc 3 71 rfl rfl
            have hk := Lib.hid (fun w1 (h : Below ω.heap.size ω w1) => hK (.pointer (some ⟨wA.heap.size, 70, none⟩)) w1 rfl h)
            clear hK hu hc
            go_simp
            exact hk.out _ (Below.refl _ _)
          · refine calm_step rfl fun a ω κ hb hu hc hK => ?_
            have h72 : a.tmps[72]?.getD undef = .pointer (some ⟨wA.heap.size, 70, none⟩) := hc 4 72 rfl rfl
            have hk := Lib.hid (fun w1 (h : Below ω.heap.size ω w1) => hK (.int .i64 who4) w1 rfl h)
            clear hK hu hc
            obtain ⟨m0, m1, m2, mf, mlt⟩ := (hs6.out.step hb).tok
            go_simp
            exact hk.out _ (Below.refl _ _)
          · refine calm_step rfl fun a ω κ hb hu hc hK => ?_
            have h69 : a.tmps[69]?.getD undef = .int .i64 who4 := hc 1 69 rfl rfl
            have h73 : a.tmps[73]?.getD undef = .int .i64 who4 := hc 5 73 rfl rfl
            have hk := Lib.hid (fun w1 (h : Below ω.heap.size ω w1) => hK (.bool false) w1 rfl h)
            clear hK hu hc
            have hnn : (who4 != who4) = false := by simp
            go_simp
            exact hk.out _ (Below.refl _ _)
          · refine calm_step rfl fun a ω κ hb hu hc hK => ?_
            have h74 : a.tmps[74]?.getD undef = .bool false := hc 6 74 rfl rfl
            have hk := Lib.hid (fun w1 (h : Below ω.heap.size ω w1) => hK (.bool false) w1 rfl h)
            clear hK hu hc
            go_simp
            exact hk.out _ (Below.refl _ _)
          · refine calm_step_guard (g := 7) (b := false) (d := 75) rfl rfl (fun a w hc => hc 7 75 rfl rfl) fun a ω κ hb hu hc hK => ?_
            have h5 : a.tmps[5]?.getD undef = .pointer (some ⟨g, 0, none⟩) := (hu 5 rfl).trans e5
            have hk := Lib.hid (fun w1 (h : Below ω.heap.size ω w1) => hK (.pointer (some ⟨g, 0, none⟩)) w1 rfl h)
            clear hK hu hc
            go_simp
            exact hk.out _ (Below.refl _ _)
          · refine calm_step_guard (g := 7) (b := false) (d := 75) rfl rfl (fun a w hc => hc 7 75 rfl rfl) fun a ω κ hb hu hc hK => ?_
            have h76 : a.tmps[76]?.getD undef = .pointer (some ⟨g, 0, none⟩) := hc 8 76 rfl rfl
            have hk := Lib.hid (fun v w1 (hv : (SRel.keys (l4.map (·.1))).p v w1) (h : Below ω.heap.size ω w1) => hK v w1 hv h)
            clear hK hu hc
            go_simp
            go_at_call 40
            refine (desk_List g bm most last4 who4 l4 ω (hs6.out.step hb).desk (by have := hl6.out; omega)).mono ?_
            rintro e w9 ⟨A9, c9, rfl, hr9, hb9⟩
            exact hk.out _ _ ⟨A9, c9, rfl, hr9⟩ hb9
          · refine calm_step_guard (g := 7) (b := false) (d := 75) rfl rfl (fun a w hc => hc 7 75 rfl rfl) fun a ω κ hb hu hc hK => ?_
            have h10 : a.tmps[10]?.getD undef = .slice A5 l4.length c5 := (hu 10 rfl).trans e10
            have hk := Lib.hid (fun w1 (h : Below ω.heap.size ω w1) => hK (.slice A5 l4.length c5) w1 rfl h)
            clear hK hu hc
            go_simp
            exact hk.out _ (Below.refl _ _)
          · refine calm_step_guard (g := 7) (b := false) (d := 75) rfl rfl (fun a w hc => hc 7 75 rfl rfl) fun a ω κ hb hu hc hK => ?_
            have h77 : (SRel.keys (l4.map (·.1))).p (a.tmps[77]?.getD undef) ω := hc 9 77 rfl rfl
            have h78 : a.tmps[78]?.getD undef = .slice A5 l4.length c5 := hc 10 78 rfl rfl
            have hk := Lib.hid (fun w1 (h : Below ω.heap.size ω w1) => hK (.bool true) w1 rfl h)
            clear hK hu hc
            obtain ⟨A9, c9, e9, hr9⟩ := h77
            rw [List.length_map] at e9
            go_simp
            go_at_call 17
            have hq := ints_Equal A9 A5 (l4.map (·.1)) (l4.map (·.1)) c9 c5 ω hr9 ((hr6.out.below hb).more hb.size) (by have := hl6.out; simp; omega)
            simp only [List.length_map, decide_true] at hq
            refine hq.mono ?_
            rintro e w9 ⟨rfl, hb9⟩
            exact hk.out _ hb9
          · refine calm_step_guard (g := 7) (b := false) (d := 75) rfl rfl (fun a w hc => hc 7 75 rfl rfl) fun a ω κ hb hu hc hK => ?_
            have h79 : a.tmps[79]?.getD undef = .bool true := hc 11 79 rfl rfl
            have hk := Lib.hid (fun w1 (h : Below ω.heap.size ω w1) => hK (.bool false) w1 rfl h)
            clear hK hu hc
            go_simp
            exact hk.out _ (Below.refl _ _)
          · refine calm_step rfl fun a ω κ hb hu hc hK => ?_
            have h75 : a.tmps[75]?.getD undef = .bool false := hc 7 75 rfl rfl
            have h80 : a.tmps[80]?.getD undef = .bool false := hc 12 80 rfl rfl
            have hk := Lib.hid (fun w1 (h : Below ω.heap.size ω w1) => hK (.bool false) w1 rfl h)
            clear hK hu hc
            go_simp
            exact hk.out _ (Below.refl _ _)
          · intro a1 w1 hb1 hu1 hsz1 hdf1 hc1
            have ha0 := hha0.out
            subst ha0
            have he := act_patch (n := 83) [false, false, false, false, false, false, false, false, false, false, false, false, false, false, false, false, false, false, false, false, false, false, false, false, false, false, false, false, false, false, false, false, false, false, false, false, false, false, false, false, false, false, false, false, false, false, false, false, false, false, false, false, false, false, false, false, false, false, false, false, false, false, false, false, false, false, false, false, true, true, true, true, true, true, true, true, true, true, true, true, true, true, false] rfl (by kernel_rfl) hu1 hsz1 hdf1
            simp only [patch, cond_true, cond_false, Nat.reduceAdd] at he
            have hkn81 : a1.tmps[81]?.getD undef = .bool false := hc1 13 81 rfl
            have hs7 := Lib.hid (hs6.out.step hb1)
            have hL7 := Lib.hid (below_step hb1 hL6.out (Nat.le_refl _))
            clear hb1 hu1 hsz1 hdf1 hc1 hz0 hha0 e5 e7 e10
            rw [he]
            clear he
            rw [hkn81]
            clear hkn81
            generalize a1.tmps[68]?.getD undef = x68 at *
            generalize a1.tmps[69]?.getD undef = x69 at *
            generalize a1.tmps[70]?.getD undef = x70 at *
            generalize a1.tmps[71]?.getD undef = x71 at *
            generalize a1.tmps[72]?.getD undef = x72 at *
            generalize a1.tmps[73]?.getD undef = x73 at *
            generalize a1.tmps[74]?.getD undef = x74 at *
            generalize a1.tmps[75]?.getD undef = x75 at *
            generalize a1.tmps[76]?.getD undef = x76 at *
            generalize a1.tmps[77]?.getD undef = x77 at *
            generalize a1.tmps[78]?.getD undef = x78 at *
            generalize a1.tmps[79]?.getD undef = x79 at *
            generalize a1.tmps[80]?.getD undef = x80 at *
            obtain ⟨m0, m1, m2, mf, mlt⟩ := hs7.out.tok
            have hwn : IntKind.i64.wrap ((n : Int) + 1) = (n : Int) + 1 := by rw [IntKind.wrap_i64]; omega
            go_wp2
            refine ⟨⟨n + 1, l4, last4, who4, _, rfl, by omega, hs7.out, by have := hn6.out; omega, by have := hn6.out; omega, hL7.out⟩, ?_⟩
            simp only [intOf]
            have := hn6.out
            omega
        · have hjl : j < l4.length := by omega
          have hjl2 : (j : Int) < (l4.length : Int) := by omega
          obtain ⟨ad4, rfl, hbl4, r1, r2, r3⟩ := seat_at (Rd.of_own hs6.out.own) hjl
          have hjw : IntKind.i64.wrap ((j : Int) + 1) = (j : Int) + 1 := by rw [IntKind.wrap_i64]; omega
          obtain ⟨m0, m1, m2, mf, mlt⟩ := hs6.out.tok
          go_wp2_with (at_builtin; go_must (refine wpList_own1 rfl (.tmp 62) (.tmp 65) 33 rfl SInt4 rfl (hO.alloc _) (.int .i64 l4[j].1) (Eq.trans (b := Value.slice (some ⟨wr.heap.size + 1, 0, none⟩) 1 1) rfl (by simp)) rfl (by rw [izV_len, List.length_map, List.length_take]; unfold maxLen; omega) (by rw [izV_len, List.length_map, List.length_take]; omega) ?_); intro v' w' hO' hg' hat')
          refine ⟨⟨j + 1, rfl, by omega, ?_⟩, ?_⟩
          · rw [show (l4.take (j + 1)).map (·.1) = (l4.take j).map (·.1) ++ [l4[j].1] from by rw [List.take_succ_eq_append_getElem hjl, List.map_append]; rfl]
            rw [show izV ((l4.take j).map (·.1) ++ [l4[j].1]) = izV ((l4.take j).map (·.1)) ++ [.int .i64 l4[j].1] from by simp [izV]]
            exact hO'
          · simp only [intOf]
            omega
end Go.Proofs.Ytdlmamnnamlleaa
