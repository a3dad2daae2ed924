/- Several texts one behind the other: St22 St23 Open ArrK Args Args2 StO. -/
import Derived.Test.YtakooljbkjnilaaStK1
import Derived.Test.YtakooljbkjnilaaMem
import Derived.ProofKit
import Derived.Test.YtakooljbkjnilaaSl
import Derived.Deep.Slices
import Derived.Deep.Fields
import Derived.ChangeSame
import Derived.Test.YtakooljbkjnilaaArr8
import Derived.Laws.StructEq
import Derived.SizedLaws
namespace Go.Proofs.Ytakooljbkjnilaa
open Go.ChangeShapes Go.WideShapes Go.ChangeAt Go.RowKit
set_option maxHeartbeats 1000000
set_option maxRecDepth 100000
attribute [local go_sem] kp_refl kp_alloc kp_setCell kp_drew kp_drewN row_new row_old rowAt_new rowAt_old
theorem foundB_take (ask : List KV) (hs : List Hd) {j : Nat} (h : j < hs.length) : foundB ask ((hs.take (j + 1)).map Hd.ob) = foundB ask ((hs.take j).map Hd.ob) ++ (if condB ask hs[j].ob then [hs[j].h] else []) := by
  rw [take_snocH hs h, List.map_append]
  exact foundB_snoc _ _ _

set_option maxHeartbeats 8000000 in
theorem keeps_find (n0 g bm : Nat) (most next k : Int) (hs ks : List Hd) (A A2 : Option Addr) (c c2 : Nat) (al : List At) (w : World) (h : KpAt n0 w g bm (.slice A hs.length c) most next hs ks) (hn : n0 ≤ w.heap.size) (hA2 : Ats w n0 A2 al) (_hc2 : al.length ≤ c2 ∧ c2 ≤ maxLen) (hal : al.length ≤ 4398046511104) (_hkw : (Lit.int .i64 k).wf = true) (kd : Int) (hkd : kd ≠ 1 ∧ kd ≠ 2 ∧ kd ≠ 3 ∧ kd ≠ 4 ∧ kd ≠ 5) :
    Calls Try.prog 10 #[.pointer (some ⟨g, 0, none⟩), .slice A hs.length c, .int .i64 next, .int .i64 most, .agg #[.int .i64 kd, .int .i64 k, .slice A2 al.length c2]] w (KeepsR n0 g bm most w) := by
  have hrd := Lib.hid h.hv.rd
  have hH := Lib.hid h
  have hl : hs.length ≤ 16 := by have := h.ln; have := h.mo; omega
  have hkl := Lib.hid h.len
  have hrise := Lib.hid (fun i j (hij : i < j) (hj : j < hs.length) => h.rise hij hj)
  have hA2 := Lib.hid hA2
  clear h
  go_enter Try.func10, Try.ntmps10
  go_wp2
  go_loopw [13, 33] (fun v x wr => ∃ j : Nat, x = .int .i64 j ∧ j ≤ hs.length ∧ (∃ z, v = .int .i64 z ∧ PlaceN hs k j z) ∧ B3 wr w.heap.size (.int .i64 kd) (.int .i64 k) (.slice A2 al.length c2) ∧ Below w.heap.size w wr) (fun _ x _ => hs.length - (Go.RowKit.intOf x).toNat)
  case atStart => exact ⟨0, rfl, Nat.zero_le _, ⟨-1, rfl, .inl ⟨rfl, fun i _ hi => absurd hi (by omega)⟩⟩, B3.new w _ _ _ _, below_alloc' _ _⟩
  case round =>
    obtain ⟨j, rfl, hj, ⟨z, rfl, hz⟩, h3, hb⟩ := hrel
    by_cases hjl : j = hs.length
    · subst hjl
      obtain ⟨x0, x1, x2, xf⟩ := h3.c
      have hzw := hb.size
      have hKw := Lib.hid (hH.out.step hn hb)
      have hA2r := Lib.hid (hA2.out.kp (kp_of_below (hb.mono hn)))
      have hbn := Lib.hid (hb.mono hn)
      have h3H := Lib.hid h3
      have hbH := Lib.hid hb
      have hglt := hKw.out.st.lt
      have hblt := hKw.out.st.mp.lt
      have hgn := hKw.out.gn.1
      have hnw : n0 ≤ wr.heap.size := by omega
      clear h3 hb
      have k1 : (kd == 1) = false := by simpa using hkd.1
      have k2 : (kd == 2) = false := by simpa using hkd.2.1
      have k3 : (kd == 3) = false := by simpa using hkd.2.2.1
      have k4 : (kd == 4) = false := by simpa using hkd.2.2.2.1
      have k5 : (kd == 5) = false := by simpa using hkd.2.2.2.2
      have hkl2 : ks.length ≤ 100000 := by rw [hkl.out]; omega
      clear hz
      have hA3 := Lib.hid (hA2r.out.more hnw)
      have hfo := Lib.hid (ref_FirstOf A2 al c2 wr hA3.out (by omega) 4)
      have hvk : Hid ((look al 4).isSome = (lookK (al.map At.kv) 4).isSome) := by show _ = _; rw [look_kv]
      generalize hlk : (look al 4).isSome = vb at *
      have hlk := Lib.hid hlk
      go_wp2_with (go_at_call 19; refine hfo.out.mono ?_; rintro e w5 ⟨rfl, hb5⟩; have y3 := h3H.out.step hb5; obtain ⟨y0, y1, y2, yf⟩ := y3.c)
      all_goals
        generalize (look al 4).getD [] = sx at *
        have hbw5 := Lib.hid (hbH.out.trans (hb5.mono hzw))
        have hz5 := hb5.size
        clear y0 y1 yf y2 x0 x1 x2 xf
        obtain ⟨wa, hwa⟩ : ∃ wa, wa = wr := ⟨_, rfl⟩
        subst hwa
        go_loopw [28, 219] (fun v x wk => ∃ j : Nat, x = .int .i64 j ∧ j ≤ hs.length ∧ wk.ownsRow w5.heap.size 3 1 v (foundB (al.map At.kv) ((hs.take j).map Hd.ob)).length (izV (foundB (al.map At.kv) ((hs.take j).map Hd.ob))) ∧ Below w5.heap.size w5 wk) (fun _ x _ => hs.length - (Go.RowKit.intOf x).toNat)
        case atStart => exact ⟨0, rfl, Nat.zero_le _, World.ownsRow_nil _ _ _ _, Below.refl _ _⟩
        case round =>
          obtain ⟨j, rfl, hj, hO, hbk⟩ := hrel
          obtain ⟨wk, hwk⟩ : ∃ wk, wk = wr := ⟨_, rfl⟩
          subst hwk
          have hzk := hbk.size
          obtain ⟨Av, cv, rfl⟩ := own_formS hO
          have z3 := y3.step (hbk.mono (by omega))
          obtain ⟨y0, y1, y2, yf⟩ := z3.c
          have hbwk := Lib.hid (hbw5.out.trans (hbk.mono (by omega)))
          by_cases hjl : j = hs.length
          · have hfl : foundB (al.map At.kv) ((hs.take j).map Hd.ob) = foundB (al.map At.kv) (ks.map Hd.ob) := by rw [hjl, List.take_length, hKw.out.ob]
            rw [hfl] at hO ⊢
            clear hfl
            have hrv := Rd.of_own hO
            have hfd := Lib.hid (store_Find g bm most next ks A2 al c2 wk (hKw.out.st.step ((hb5.trans (hbk.mono hz5)))) (by omega) ((hA2.out.kp (kp_of_below (hbwk.out.mono hn))).more (by omega)) hal)
            have hfle : (foundB (al.map At.kv) (ks.map Hd.ob)).length ≤ 100000 := by
              have e3 : (foundB (al.map At.kv) (ks.map Hd.ob)).length ≤ (ks.map Hd.ob).length := by unfold foundB; rw [List.length_map]; exact List.length_filter_le _ _
              rw [List.length_map] at e3; omega
            unfold FindSR at hfd
            generalize foundB (al.map At.kv) (ks.map Hd.ob) = fs at *
            have hrvH := Lib.hid hrv
            clear hrv hO
            subst hjl
            go_wp2_with (first
              | (go_at_call 23; refine hfd.out.mono ?_; rintro e w6 ⟨A7, c7, rfl, hr7, hb7⟩; have hq := Lib.hid (ints_Equal A7 Av fs fs c7 cv w6 hr7 ((hrvH.out.below hb7).more hb7.size) (by omega)))
              | (go_at_call 22; refine hq.out.mono ?_; rintro e w7 ⟨rfl, hb8⟩))
            go_ret3
            have hbf := (hbwk.out.trans (hb7.mono (by omega))).trans (hb8.mono (by have := hb7.size; omega))
            exact ⟨A, c, hs, ks, next, by simp, hH.out.step hn hbf, hbf.mono hn⟩
          · have hjl : j < hs.length := by omega
            have hcl := hrd.out.kp (kp_of_below hbwk.out)
            obtain ⟨ad, rfl, hal2, p0, p1, p2⟩ := hd_at hcl hjl
            have hxb := hH.out.hv.body hs[j] (List.getElem_mem hjl)
            have hsn := Lib.hid (foundB_take (al.map At.kv) hs hjl)
            have hcb : condB (al.map At.kv) hs[j].ob = (fitsL (hs[j].l.map At.kv) (al.map At.kv) && !(vb && hidden hs[j].l)) := by rw [hvk.out, hidden_kv]; rfl
            have hcb := Lib.hid hcb
            have hxA := hxb.1.kp (kp_of_below (hbwk.out.mono hn))
            have hx4 := hxb.2.2.2
            have hAk := hA2.out.kp (kp_of_below (hbwk.out.mono hn))
            have hfo2 : (foundB (al.map At.kv) ((hs.take j).map Hd.ob)).length ≤ 100000 := by
              have e3 : (foundB (al.map At.kv) ((hs.take j).map Hd.ob)).length ≤ ((hs.take j).map Hd.ob).length := by unfold foundB; rw [List.length_map]; exact List.length_filter_le _ _
              rw [List.length_map, List.length_take] at e3; omega
            clear hxb hcl
            generalize hs[j] = x at *
            obtain ⟨xh, xo, xA, xc, xl⟩ := x
            simp only at p0 p1 p2 hsn hcb hxA hx4
            have hbA := below_alloc' wk (.cells #[.int .i64 xh, .int .i64 xo, .slice xA xl.length xc] 45)
            have b3 := B3.new wk (.int .i64 xh) (.int .i64 xo) (.slice xA xl.length xc) 45
            have zA := z3.step hbA
            have hOA := own_keptS hO (fun i hi => hbA.block i (hO.lt i hi).2)
            have hxW := ((hxA.more (show n0 ≤ wk.heap.size by omega)).step hbA)
            have hAW := ((hAk.more (show n0 ≤ wk.heap.size by omega)).step hbA)
            have hbX := Lib.hid (hbk.trans (hbA.mono hzk))
            have hszW : wk.heap.size + 1 = (wk.alloc (.cells #[.int .i64 xh, .int .i64 xo, .slice xA xl.length xc] 45)).heap.size := by simp
            clear y0 y1 y2 yf z3 hO hAk hxA
            go_upto_region 46 with (fail)
            generalize wk.alloc (.cells #[.int .i64 xh, .int .i64 xo, .slice xA xl.length xc] 45) = W at *
            have hP := Lib.hid (fun V (hV : Below W.heap.size W V) => (show V.cell? ⟨wk.heap.size, 0, none⟩ = some (.int .i64 xh) ∧ V.cell? ⟨wk.heap.size, 2, none⟩ = some (.slice xA xl.length xc) ∧ V.cell? ⟨w.heap.size, 2, none⟩ = some (.slice A2 al.length c2) ∧ (∀ i, V.frozen? ⟨w.heap.size, i, none⟩ = false) ∧ V.ownsRow w5.heap.size 3 1 (.slice Av (foundB (al.map At.kv) ((hs.take j).map Hd.ob)).length cv) (foundB (al.map At.kv) ((hs.take j).map Hd.ob)).length (izV (foundB (al.map At.kv) ((hs.take j).map Hd.ob))) ∧ W.heap.size ≤ V.heap.size ∧ Below W.heap.size W V ∧ True from
              ⟨((b3.step hV).c).1, ((b3.step hV).c).2.2.1, ((zA.step hV).c).2.2.1, ((zA.step hV).c).2.2.2, own_keptS hOA (fun i hi => hV.block i (hOA.lt i hi).2), hV.size, hV, trivial⟩))
            obtain ⟨r0, -, r2, rf⟩ := b3.c
            obtain ⟨-, -, s2, sf⟩ := zA.c
            have hcM : Calls Try.prog 20 #[.slice xA xl.length xc, .slice A2 al.length c2] W fun e w' => e = .returned (.bool (fitsL (xl.map At.kv) (al.map At.kv))) ∧ Below W.heap.size W w' := ref_Fits xA A2 xl al xc c2 W hxW hAW (by omega) (by omega)
            have hcH : ∀ V, Below W.heap.size W V → Calls Try.prog 21 #[.slice xA xl.length xc] V fun e w' => e = .returned (.bool (hidden xl)) ∧ Below W.heap.size W w' := fun V hV => (ref_Veiled xA xl xc V (hxW.step hV) (by omega)).mono fun e w' ⟨h1, h2⟩ => ⟨h1, hV.trans (h2.mono hV.size)⟩
            generalize fitsL (xl.map At.kv) (al.map At.kv) = fm at *
            generalize hidden xl = hd at *
            clear hOA b3 zA hxW hAW
            cases fm
            · go_wp2_with (go_at_call 20; refine hcM.mono ?_; rintro e w6 ⟨rfl, hb6⟩; obtain ⟨a0, a1, a2, af, aO, aZ, aB, a9⟩ := hP.out _ hb6; have hOx := Lib.hid (own_keptS aO (fun j hj => (below_alloc' w6 (.cells #[.int .i64 xh] 3)).block j (aO.lt j hj).2)))
              all_goals (first | (exfalso; rename_i hu1 hu2; exact undef_nb hu1) | skip)
              all_goals
                go_roundw
                case rel => exact ⟨j + 1, by go_num, by omega, by rw [hsn.out, hcb.out]; simpa using aO, (hbX.out.trans (aB.mono (by omega)))⟩
                case measure => simp [Go.RowKit.intOf]; omega
            · cases vb
              · go_wp2_with (first | (go_at_call 20; refine hcM.mono ?_; rintro e w6 ⟨rfl, hb6⟩; obtain ⟨a0, a1, a2, af, aO, aZ, aB, a9⟩ := hP.out _ hb6; have hOx := Lib.hid (own_keptS aO (fun j hj => (below_alloc' w6 (.cells #[.int .i64 xh] 3)).block j (aO.lt j hj).2))) | (at_builtin; go_must (refine wpList_app (base := w5.heap.size) (n := (foundB (al.map At.kv) ((hs.take j).map Hd.ob)).length) (xs := izV (foundB (al.map At.kv) ((hs.take j).map Hd.ob))) rfl (.tmp 237) (.tmp 240) 56 rfl SIz (v := .slice Av (foundB (al.map At.kv) ((hs.take j).map Hd.ob)).length cv) (by go_simp) hOx.out (A := some ⟨w6.heap.size, 0, none⟩) (c := 1) (by go_simp) (m := 1) (news := [.int .i64 xh]) rfl (Rd.of_blk (g := w6.heap.size) (blk_new _ _ rfl) (Nat.lt_succ_self _)) (by intro u hu; simp at hu; subst hu; rfl) (by unfold maxLen; omega) (by omega) (by simp; omega) ?_); intro v2 w8 hO8 hg8 hat8; clear hat8))
                all_goals (first | (exfalso; rename_i hu1 hu2; exact undef_nb hu1) | skip)
                go_roundw
                case rel =>
                  have hbq := Lib.hid (((hbX.out.trans (aB.mono (by omega))).trans ((below_alloc' w6 (.cells #[.int .i64 xh] 3)).mono (by omega))).grown hg8 (by simp; omega) (fun j hj => (aO.lt j hj).1))
                  refine ⟨j + 1, by go_num, by omega, ?_, hbq.out⟩
                  rw [hsn.out, hcb.out]
                  have e : izV (foundB (al.map At.kv) ((hs.take j).map Hd.ob) ++ [xh]) = izV (foundB (al.map At.kv) ((hs.take j).map Hd.ob)) ++ [.int .i64 xh] := by simp [izV]
                  show w8.ownsRow _ _ _ _ (foundB (al.map At.kv) ((hs.take j).map Hd.ob) ++ [xh]).length (izV (foundB (al.map At.kv) ((hs.take j).map Hd.ob) ++ [xh]))
                  rw [e, List.length_append]
                  exact hO8
                case measure => simp [Go.RowKit.intOf]; omega
              · cases hd
                · go_wp2_with (first | (go_at_call 20; refine hcM.mono ?_; rintro e w6 ⟨rfl, hb6⟩; obtain ⟨a0, a1, a2, af, aO, aZ, aB, a9⟩ := hP.out _ hb6; have hOx := Lib.hid (own_keptS aO (fun j hj => (below_alloc' w6 (.cells #[.int .i64 xh] 3)).block j (aO.lt j hj).2))) | (go_at_call 21; refine (hcH _ aB).mono ?_; rintro e w7 ⟨rfl, hb7⟩; clear a0 a1 a2 af aO aZ aB a9; obtain ⟨a0, a1, a2, af, aO, aZ, aB, a9⟩ := hP.out _ hb7; have hOx := Lib.hid (own_keptS aO (fun j hj => (below_alloc' w7 (.cells #[.int .i64 xh] 3)).block j (aO.lt j hj).2))) | (at_builtin; go_must (refine wpList_app (base := w5.heap.size) (n := (foundB (al.map At.kv) ((hs.take j).map Hd.ob)).length) (xs := izV (foundB (al.map At.kv) ((hs.take j).map Hd.ob))) rfl (.tmp 237) (.tmp 240) 56 rfl SIz (v := .slice Av (foundB (al.map At.kv) ((hs.take j).map Hd.ob)).length cv) (by go_simp) hOx.out (A := some ⟨w7.heap.size, 0, none⟩) (c := 1) (by go_simp) (m := 1) (news := [.int .i64 xh]) rfl (Rd.of_blk (g := w7.heap.size) (blk_new _ _ rfl) (Nat.lt_succ_self _)) (by intro u hu; simp at hu; subst hu; rfl) (by unfold maxLen; omega) (by omega) (by simp; omega) ?_); intro v2 w8 hO8 hg8 hat8; clear hat8))
                  go_roundw
                  case rel =>
                    have hbq := Lib.hid (((hbX.out.trans (aB.mono (by omega))).trans ((below_alloc' w7 (.cells #[.int .i64 xh] 3)).mono (by omega))).grown hg8 (by simp; omega) (fun j hj => (aO.lt j hj).1))
                    refine ⟨j + 1, by go_num, by omega, ?_, hbq.out⟩
                    rw [hsn.out, hcb.out]
                    have e : izV (foundB (al.map At.kv) ((hs.take j).map Hd.ob) ++ [xh]) = izV (foundB (al.map At.kv) ((hs.take j).map Hd.ob)) ++ [.int .i64 xh] := by simp [izV]
                    show w8.ownsRow _ _ _ _ (foundB (al.map At.kv) ((hs.take j).map Hd.ob) ++ [xh]).length (izV (foundB (al.map At.kv) ((hs.take j).map Hd.ob) ++ [xh]))
                    rw [e, List.length_append]
                    exact hO8
                  case measure => simp [Go.RowKit.intOf]; omega
                · go_wp2_with (first | (go_at_call 20; refine hcM.mono ?_; rintro e w6 ⟨rfl, hb6⟩; obtain ⟨a0, a1, a2, af, aO, aZ, aB, a9⟩ := hP.out _ hb6; have hOx := Lib.hid (own_keptS aO (fun j hj => (below_alloc' w6 (.cells #[.int .i64 xh] 3)).block j (aO.lt j hj).2))) | (go_at_call 21; refine (hcH _ aB).mono ?_; rintro e w7 ⟨rfl, hb7⟩; clear a0 a1 a2 af aO aZ aB a9; obtain ⟨a0, a1, a2, af, aO, aZ, aB, a9⟩ := hP.out _ hb7; have hOx := Lib.hid (own_keptS aO (fun j hj => (below_alloc' w7 (.cells #[.int .i64 xh] 3)).block j (aO.lt j hj).2))))
                  go_roundw
                  case rel => exact ⟨j + 1, by go_num, by omega, by rw [hsn.out, hcb.out]; simpa using aO, (hbX.out.trans (aB.mono (by omega)))⟩
                  case measure => simp [Go.RowKit.intOf]; omega
    · have hjl : j < hs.length := by omega
      have hcl := hrd.out.kp (kp_of_below hb)
      obtain ⟨ad, rfl, hal, p0, p1, p2⟩ := hd_at hcl hjl
      have hk1 : hs[j].h = k → PlaceN hs k (j + 1) (j : Int) := fun e => .inr ⟨j, hjl, by omega, rfl, e⟩
      have hk2 : hs[j].h ≠ k → PlaceN hs k (j + 1) z := fun e => by
        rcases hz with ⟨h1, h2⟩ | ⟨i, hi, h1, h2, h3⟩
        · refine .inl ⟨h1, fun i hi hij => ?_⟩
          rcases Nat.lt_or_ge i j with h | h
          · exact h2 i hi h
          · have : i = j := by omega
            subst this; exact e
        · exact .inr ⟨i, hi, by omega, h2, h3⟩
      have hk1 := Lib.hid hk1
      have hk2 := Lib.hid hk2
      clear hH hkl hrise hrd
      generalize hs[j] = x at *
      obtain ⟨xh, xo, xA, xc, xl⟩ := x
      simp only at p0 p1 p2 hk1 hk2
      have hbA := below_alloc' wr (.cells #[.int .i64 xh, .int .i64 xo, .slice xA xl.length xc] 45)
      have h3A := Lib.hid (h3.step hbA)
      have hbB := Lib.hid (hb.trans (hbA.mono hb.size))
      obtain ⟨x0, x1, x2, xf⟩ := h3.c
      have x1A := (hbA.cell (p := ⟨w.heap.size, 1, none⟩) h3.lt).trans x1
      clear hz hcl h3 hbA
      by_cases he : xh = k
      · have hp := Lib.hid (hk1.out he)
        have hd : (xh == k) = true := by simpa using he
        clear he
        go_wp2
        go_roundw
        case rel => exact ⟨j + 1, by go_num, by omega, ⟨j, rfl, hp.out⟩, h3A.out, hbB.out⟩
        case measure => simp [Go.RowKit.intOf]; omega
      · have hp := Lib.hid (hk2.out he)
        have hd : (xh == k) = false := by simpa using he
        clear he
        go_wp2
        go_roundw
        case rel => exact ⟨j + 1, by go_num, by omega, ⟨z, rfl, hp.out⟩, h3A.out, hbB.out⟩
        case measure => simp [Go.RowKit.intOf]; omega
end Go.Proofs.Ytakooljbkjnilaa
namespace Go.Proofs.Ytakooljbkjnilaa
open Go.ChangeShapes Go.WideShapes Go.ChangeAt Go.RowKit
set_option maxHeartbeats 1000000
set_option maxRecDepth 100000
attribute [local go_sem] kp_refl kp_alloc kp_setCell kp_drew kp_drewN row_new row_old rowAt_new rowAt_old

/-- Any step. -/
theorem keeps_any (kd : Int) (n0 g bm : Nat) (most next k : Int) (hs ks : List Hd) (A A2 : Option Addr) (c c2 : Nat) (al : List At) (w : World) (h : KpAt n0 w g bm (.slice A hs.length c) most next hs ks) (hn : n0 ≤ w.heap.size) (hA2 : Ats w n0 A2 al) (hc2 : al.length ≤ c2 ∧ c2 ≤ maxLen) (hal : al.length ≤ 4398046511104) (hkw : (Lit.int .i64 k).wf = true) :
    Calls Try.prog 10 #[.pointer (some ⟨g, 0, none⟩), .slice A hs.length c, .int .i64 next, .int .i64 most, .agg #[.int .i64 kd, .int .i64 k, .slice A2 al.length c2]] w (KeepsR n0 g bm most w) := by
  by_cases k1 : kd = 1
  · subst k1; exact keeps_put n0 g bm most next k hs ks A A2 c c2 al w h hn hA2 hc2 hal hkw
  by_cases k2 : kd = 2
  · subst k2; exact keeps_get n0 g bm most next k hs ks A A2 c c2 al w h hn hA2 hc2 hal hkw
  by_cases k3 : kd = 3
  · subst k3; exact keeps_set n0 g bm most next k hs ks A A2 c c2 al w h hn hA2 hc2 hal hkw
  by_cases k4 : kd = 4
  · subst k4; exact keeps_drop n0 g bm most next k hs ks A A2 c c2 al w h hn hA2 hc2 hal hkw
  by_cases k5 : kd = 5
  · subst k5; exact keeps_of n0 g bm most next k hs ks A A2 c c2 al w h hn hA2 hc2 hal hkw
  exact keeps_find n0 g bm most next k hs ks A A2 c c2 al w h hn hA2 hc2 hal hkw kd ⟨k1, k2, k3, k4, k5⟩
theorem restZ_zero {most next : Int} {l : List Hd} (h : restZ most next l = 0) : (1 ≤ most ∧ most ≤ 16) ∧ (1 ≤ next ∧ next ≤ 1073741824) ∧ (∀ j, j < l.length → badO l next j = false) ∧ (l.length : Int) ≤ most := by
  unfold restZ at h
  by_cases h1 : most < 1 ∨ 16 < most ∨ next < 1 ∨ 1073741824 < next
  · rw [if_pos h1] at h; omega
  · rw [if_neg h1] at h
    by_cases h2 : (List.range l.length).any (badO l next) = true
    · rw [if_pos h2] at h; omega
    · rw [if_neg h2] at h
      have h3 : ¬ most < (l.length : Int) := fun e => by rw [if_pos e] at h; omega
      refine ⟨by omega, by omega, fun j hj => ?_, by omega⟩
      have h4 : (List.range l.length).any (badO l next) = false := by simpa using h2
      have := List.any_eq_false.1 h4 j (List.mem_range.2 hj)
      simpa using this
theorem KpAt.begin {n0 : Nat} {w w1 w2 : World} {g bm : Nat} {v : Value} {most next : Int} {l ks : List Hd} {A : Option Addr} (hz : restZ most next l = 0) (hS : StAt w1 g bm most next ks) (hob : ks.map Hd.ob = l.map Hd.ob) (hf : ∀ x ∈ ks, HdOk (fun k => n0 ≤ k ∧ k < w1.heap.size) w1 x) (hg : n0 ≤ g) (hb : n0 ≤ bm) (hb2 : Below w1.heap.size w1 w2)
    (hl : HdsIn w n0 A l) (hbel : Below n0 w w2) (hown : w2.ownsRow w1.heap.size 45 3 v l.length (l.flatMap Hd.cells)) (h1 : n0 ≤ w1.heap.size) : KpAt n0 w2 g bm v most next l ks := by
  obtain ⟨z1, z2, z3, z4⟩ := restZ_zero hz
  have hv : ∀ k, k < w1.heap.size → some k ≠ v.ownBlock := fun k hk e => by have := (hown.lt k e.symm).1; omega
  refine ⟨hS.step hb2, ⟨own_lower hown h1, fun x hx => ⟨(hl.body x hx).1.kp (kp_of_below hbel), (hl.body x hx).2⟩⟩, hob.symm, fun x hx => ?_, ⟨hg, hv g hS.lt⟩, ⟨hb, hv bm hS.mp.lt⟩, fun x hx => ?_, z4, z1, z2⟩
  · have e1 := hf x hx
    have e2 := hS.at_ x hx
    refine HdOk.kept (w := w1) ⟨⟨e1.ats.ats, fun a ha => ?_, fun y hy a ha => ?_⟩, e1.len, e1.cap, e1.lim⟩ (fun k hk _ => hb2.block k hk) hb2.size
    · have q1 := e1.ats.own a ha
      have q2 := e2.ats.own a ha
      exact ⟨⟨q1.1, Nat.lt_of_lt_of_le q1.2 hb2.size⟩, hv _ q1.2, q2⟩
    · have q1 := e1.ats.body y hy a ha
      have q2 := e2.ats.body y hy a ha
      exact ⟨⟨q1.1, Nat.lt_of_lt_of_le q1.2 hb2.size⟩, hv _ q1.2, q2⟩
  · obtain ⟨i, hi, rfl⟩ := List.getElem_of_mem hx
    have hlen : ks.length = l.length := by have := congrArg List.length hob; simpa using this
    have := congrArg (fun q => q[i]?) hob
    simp only [List.getElem?_map, List.getElem?_eq_getElem hi, List.getElem?_eq_getElem (show i < l.length by omega), Option.map_some] at this
    injection this with this
    have e : ks[i].h = (l[i]'(by omega)).h := congrArg (·.1) this
    rw [e]
    exact (good_rise (by omega) fun t ht => z3 t (by omega)).2.1
set_option maxHeartbeats 8000000 in
theorem storePlays_all (most next : Int) (A1 A2 : Option Addr) (l : List Hd) (c1 : Nat) (st : List Hd) (c2 : Nat) (w : World) (hl : HdsIn w w.heap.size A1 l) (hs : HdsIn w w.heap.size A2 st) (hll : l.length ≤ 9223372036854775807) (hwf : ∀ x ∈ st, (Lit.int .i64 x.o).wf = true) :
    Calls Try.prog 4 #[.int .i64 most, .int .i64 next, .slice A1 l.length c1, .slice A2 st.length c2] w fun e w' => e = .returned (.bool true) ∧ Below w.heap.size w w' := by
  by_cases hm : 60 < st.length
  · have hm2 : (60 : Int) < (st.length : Int) := by omega
    go_enter Try.func4, Try.ntmps4
    go_wp2
    go_ret
    exact ⟨rfl, Below.refl _ _⟩
  have hm2 : ¬ (60 : Int) < (st.length : Int) := by omega
  have hRe := Lib.hid (store_Restore most next A1 l c1 w hl hll)
  by_cases hz : restZ most next l = 0
  · have hRe2 := Lib.hid (hRe.out.mono (fun e w' (hh : RestR most next l w e w') => by unfold RestR at hh; rw [if_pos hz] at hh; exact hh))
    have hHF := Lib.hid (fun V (hV : Below w.heap.size w V) => ref_HeldFault most next A1 l c1 V ⟨(hl.cells.kp (kp_of_below hV)).more hV.size, fun x hx => ⟨((hl.body x hx).1.kp (kp_of_below hV)).more hV.size, (hl.body x hx).2⟩⟩ hll)
    rw [hz] at hHF
    have hzz := Lib.hid (restZ_zero hz)
    have hlm : l.length ≤ 16 := by have := hzz.out; omega
    have hzH := Lib.hid hz
    have hlH := Lib.hid hl
    have hsH := Lib.hid hs
    have hwH := Lib.hid hwf
    clear hRe hz hl hs hwf
    go_enter Try.func4, Try.ntmps4
    go_upto_region 9 with (first
      | (go_at_call 8; refine hRe2.out.mono ?_; rintro e w1 ⟨g, bm, ks, rfl, hS1, hob1, hfr1, hg1, hb1, hbl1⟩)
      | (go_at_call 9; refine (hHF.out _ hbl1).mono ?_; rintro e w2 ⟨rfl, hbl2⟩))
    have hb02 := hbl1.trans (hbl2.mono hbl1.size)
    have hz12 := hbl2.size
    have hz01 := hbl1.size
    have hbg := Lib.hid (fun (v : Value) V (hV : Below w2.heap.size w2 V) (ho : V.ownsRow w1.heap.size 45 3 v l.length (l.flatMap Hd.cells)) => KpAt.begin (v := v) hzH.out hS1 hob1 hfr1 hg1 hb1 (hbl2.trans (hV.mono hz12)) hlH.out (hb02.trans (hV.mono hb02.size)) ho hz01)
    have hrd := (hlH.out.cells.kp (kp_of_below hb02))
    have hb02 := Lib.hid hb02
    go_upto_region 10 with (at_builtin; go_must (refine wpList_app (base := w1.heap.size) rfl (.const (.slice none 0 0)) (.tmp 45) 27 rfl SHd rfl (World.ownsRow_nil _ _ _ _) rfl (m := l.length) (news := l.flatMap Hd.cells) (hd_flen l) hrd (hd_one l) (by unfold maxLen; omega) (by omega) hz12 ?_); intro v2 w3 hO3 hg3 hat3; clear hat3)
    rw [Nat.zero_add, List.nil_append] at hO3
    have hK3 := hbg.out v2 w3 (below_none hg3 rfl) hO3
    have hb3 := hb02.out.trans ((below_none hg3 rfl).mono (by omega))
    obtain ⟨Av, cv, rfl⟩ := own_formS hO3
    clear hO3 hg3 hrd hRe2 hHF hbg hS1 hfr1 hob1
    go_wp2
    go_loopw [1, 12, 49] (fun v1 v12 x wr => ∃ j : Nat, x = .int .i64 j ∧ j ≤ st.length ∧ ∃ (A : Option Addr) (c : Nat) (hs ks : List Hd) (nx : Int), v1 = .int .i64 nx ∧ v12 = .slice A hs.length c ∧ KpAt w.heap.size wr g bm (.slice A hs.length c) most nx hs ks ∧ Below w.heap.size w wr) (fun _ _ x _ => st.length - (Go.RowKit.intOf x).toNat)
    case atStart => exact ⟨0, rfl, Nat.zero_le _, Av, cv, l, ks, next, rfl, rfl, hK3, hb3⟩
    case round =>
      obtain ⟨j, rfl, hj, A, c, hs, ks2, nx, rfl, rfl, hK, hb⟩ := hrel
      have hzr := hb.size
      by_cases hjl : j = st.length
      · subst hjl
        go_wp2
        go_ret
        exact ⟨rfl, hb⟩
      · have hjl : j < st.length := by omega
        have hcl := hsH.out.kp (kp_of_below hb)
        obtain ⟨ad, rfl, hal2, p0, p1, p2⟩ := hd_at hcl.cells hjl
        obtain ⟨hx1, hx2, hx3, hx4⟩ := hcl.body st[j] (List.getElem_mem hjl)
        have hkw := hwH.out st[j] (List.getElem_mem hjl)
        clear hcl
        generalize st[j] = x at *
        obtain ⟨kd, k, xA, xc, xl⟩ := x
        simp only at p0 p1 p2 hx1 hx2 hx3 hx4 hkw
        have hbA := below_alloc' wr (.cells #[.int .i64 kd, .int .i64 k, .slice xA xl.length xc] 35)
        have b3 := B3.new wr (.int .i64 kd) (.int .i64 k) (.slice xA xl.length xc) 35
        have hKA := hK.step hzr hbA
        have hxA := hx1.kp (kp_of_below (hbA.mono hzr))
        have hbB := Lib.hid (hb.trans (hbA.mono hzr))
        have hzA : w.heap.size ≤ (wr.alloc (.cells #[.int .i64 kd, .int .i64 k, .slice xA xl.length xc] 35)).heap.size := by simp; omega
        clear hK hb hx1 hbA
        go_upto_region 14 with (fail)
        generalize wr.alloc (.cells #[.int .i64 kd, .int .i64 k, .slice xA xl.length xc] 35) = W at *
        have hkp := Lib.hid (keeps_any kd w.heap.size g bm most nx k hs ks2 A xA c xc xl W hKA hzA hxA ⟨hx2, hx3⟩ hx4 hkw)
        obtain ⟨r0, r1, r2, rf⟩ := b3.c
        clear hKA hxA b3 p0 p1 p2
        go_upto_region 15 with (go_at_call 10; refine hkp.out.mono ?_; rintro e w5 ⟨A5, c5, hs5, ks5, nx5, rfl, hK5, hb5⟩)
        have hbC := hbB.out.trans hb5
        have hl5 : hs5.length ≤ 16 := by have := hK5.ln; have := hK5.mo; omega
        have hkl5 := hK5.len
        have hNx := Lib.hid (store_Next g bm most nx5 ks5 w5 hK5.st)
        have hLs := Lib.hid (store_List g bm most nx5 ks5 w5 hK5.st (by omega))
        have hz5 := hbC.size
        have hSH := Lib.hid (fun V A7 c7 (l7 : List Hd) (hO : OwnH w5.heap.size V.heap.size V (.slice A7 l7.length c7) l7) (hob : l7.map Hd.ob = ks5.map Hd.ob) (hV : Below w5.heap.size w5 V) => (show Calls Try.prog 11 #[.slice A7 l7.length c7, .slice A5 hs5.length c5] V fun e w' => e = .returned (.bool true) ∧ Below V.heap.size V w' from by
          have hq : sameB l7 hs5 = true := by simp only [sameB, decide_eq_true_eq]; rw [hob, hK5.ob]
          have hKV := hK5.step hz5 hV
          have := ref_SameHeld A7 A5 l7 hs5 c7 c5 V ⟨hO.rd, fun z hz => ⟨(hO.body z hz).ats.ats, (hO.body z hz).len, (hO.body z hz).cap, (hO.body z hz).lim⟩⟩ ⟨hKV.hv.rd, fun z hz => ⟨(hKV.hv.body z hz).1.more (by have := hV.size; omega), (hKV.hv.body z hz).2⟩⟩ (by have := congrArg List.length hob; simp at this; omega)
          rw [hq] at this
          exact this))
        have hst5 := Lib.hid (fun V (hV : Below w5.heap.size w5 V) => And.intro (hK5.step hz5 hV) (hbC.trans (hV.mono hz5)))
        have hnn : (nx5 != nx5) = false := by simp
        clear hkp r0 r1 r2 rf hbB hb5 hK5 hbC
        go_wp2_with (first
          | (go_at_call 6; refine hNx.out.mono ?_; rintro e w6 ⟨rfl, rfl⟩)
          | (go_at_call 7; refine hLs.out.mono ?_; rintro e w6 ⟨A7, c7, l7, rfl, hO7, hob7, hb7⟩; have hSH7 := Lib.hid (hSH.out w6 A7 c7 l7 hO7 hob7 hb7))
          | (go_at_call 11; refine hSH7.out.mono ?_; rintro e w7 ⟨rfl, hb8⟩))
        obtain ⟨q1, q2⟩ := hst5.out w7 (hb7.trans (hb8.mono hb7.size))
        exact ⟨⟨j + 1, rfl, by omega, A5, c5, hs5, ks5, nx5, rfl, rfl, q1, q2⟩, by simp [Go.RowKit.intOf]; omega⟩
  · have hRe2 := Lib.hid (hRe.out.mono (fun e w' (hh : RestR most next l w e w') => by unfold RestR at hh; rw [if_neg hz] at hh; exact hh))
    have hHF := Lib.hid (fun V (hV : Below w.heap.size w V) => ref_HeldFault most next A1 l c1 V ⟨(hl.cells.kp (kp_of_below hV)).more hV.size, fun x hx => ⟨((hl.body x hx).1.kp (kp_of_below hV)).more hV.size, (hl.body x hx).2⟩⟩ hll)
    clear hRe
    generalize restZ most next l = z at *
    have hz2 : (z != 0) = true := by simpa using hz
    have hz3 : (z == z) = true := by simp
    clear hz
    go_enter Try.func4, Try.ntmps4
    go_wp2_with (first
      | (go_at_call 8; refine hRe2.out.mono ?_; rintro e w1 ⟨rfl, hbl1⟩)
      | (go_at_call 9; refine (hHF.out _ hbl1).mono ?_; rintro e w2 ⟨rfl, hbl2⟩))
    go_ret
    exact ⟨rfl, hbl1.trans (hbl2.mono hbl1.size)⟩
end Go.Proofs.Ytakooljbkjnilaa
namespace Go.Proofs.Ytakooljbkjnilaa
open Go Go.RowKit Go.ChangeShapes Go.WideShapes Go.ChangeAt Go.Deep

section
variable {P : Program} {w : World} {r : Reach} {b0 : Nat} {t : TypeId} {v : Value}

theorem oneCell_of_okWide {u : TypeId} {x : Value} (h : Cell.okWide P w r b0 u x) : x.oneCell' = true := by
  cases x <;> first | rfl | (exfalso; unfold Cell.okWide Cell.ok at h; revert h; split <;> (try split) <;> simp_all)

/-- A struct or an array by value: its cells, each of its own type. -/
theorem open_cells {n : Nat} {ts : List TypeId} (hu : (match P.underlying t with | some (.struct _) | some (.array _ _) => true | _ => false) = true) (hts : P.cellTypes P.depth t = some ts) (hn : ts.length = n)
    (hC : P.cellsOf t = n) (h : Value.okWide P w r b0 t v) : ∃ c : Array Value, v = .agg c ∧ Cells c n ∧ ∀ (i : Nat) u, ts[i]? = some u → ∃ x, c[i]? = some x ∧ Cell.okWide P w r b0 u x := by
  have h' : ∃ cs, v = .agg cs ∧ cs.size = P.cellsOf t ∧ Row.okWide P w r b0 t cs := by
    unfold Value.okWide at h
    cases hd : P.underlying t with
    | none => simp [hd] at hu
    | some d => cases d <;> first | (simp [hd] at hu; done) | (simpa [hd] using h)
  obtain ⟨c, rfl, hs, ts', hts', -, hc⟩ := h'
  obtain rfl : ts = ts' := Option.some.inj (hts.symm.trans hts')
  rw [hC] at hs
  refine ⟨c, rfl, ⟨hs, ?_⟩, fun i u hi => ?_⟩
  · rw [Array.all_eq_true_iff_forall_mem]
    intro x hx
    obtain ⟨i, hi⟩ := Array.getElem?_of_mem hx
    obtain ⟨u, -, hk⟩ := hc i x hi
    exact oneCell_of_okWide hk
  · have hil : i < ts.length := (List.getElem?_eq_some_iff.1 hi).1
    have hi2 : i < c.size := by omega
    obtain ⟨u', h1, h2⟩ := hc i c[i] (Array.getElem?_eq_getElem hi2)
    rw [Nat.mod_eq_of_lt hil] at h1
    obtain rfl : u = u' := Option.some.inj (hi.symm.trans h1)
    exact ⟨_, Array.getElem?_eq_getElem hi2, h2⟩

theorem cell_int {u : TypeId} {k : IntKind} {x : Value} (hu : P.underlying u = some (.int k)) (h : Cell.okWide P w r b0 u x) : ∃ n, x = .int k n ∧ k.has n := by
  cases x <;> simp [Cell.okWide, Cell.ok, hu] at h
  obtain ⟨rfl, h⟩ := h
  exact ⟨_, rfl, h⟩
theorem cell_slice {u e : TypeId} {x : Value} (hu : P.underlying u = some (.slice e)) (h : Cell.okWide P w r b0 u x) : ∃ a n c, x = .slice a n c ∧ n ≤ c ∧ c ≤ 9223372036854775807 := by
  cases x with
  | slice a n c =>
    cases a with
    | none =>
      cases n <;> cases c <;> simp [Cell.okWide, Cell.ok, hu] at h
      exact ⟨_, _, _, rfl, by omega, by omega⟩
    | some a =>
      simp [Cell.okWide, Cell.ok, hu] at h
      exact ⟨_, _, _, rfl, h.1, by have h2 : (c : Int) ≤ 9223372036854775807 := h.2.1; omega⟩
  | _ => simp [Cell.okWide, Cell.ok, hu] at h
theorem has_u8 {n : Int} (h : IntKind.u8.has n) : 0 ≤ n ∧ n < 256 := by simp [IntKind.has, IntKind.min, IntKind.max, IntKind.bits, IntKind.signed] at h; omega
theorem has_u32 {n : Int} (h : IntKind.u32.has n) : 0 ≤ n ∧ n < 4294967296 := by simp [IntKind.has, IntKind.min, IntKind.max, IntKind.bits, IntKind.signed] at h; omega
theorem has_u64 {n : Int} (h : IntKind.u64.has n) : 0 ≤ n ∧ n < 18446744073709551616 := by simp [IntKind.has, IntKind.min, IntKind.max, IntKind.bits, IntKind.signed] at h; omega
theorem has_i64 {n : Int} (h : IntKind.i64.has n) : -9223372036854775808 ≤ n ∧ n < 9223372036854775808 := by simp [IntKind.has, IntKind.min, IntKind.max, IntKind.bits, IntKind.signed] at h; omega
end

theorem cell_lt {w : World} {a : Addr} {v : Value} (h : w.cell? a = some v) : a.block < w.heap.size := by
  rcases Nat.lt_or_ge a.block w.heap.size with hlt | hge
  · exact hlt
  · simp only [World.cell?, Array.getElem?_eq_none hge] at h; cases h

/-- One choice for each index, as a list. -/
theorem list_of {α : Type} (n : Nat) (p : Nat → α → Prop) (h : ∀ i, i < n → ∃ x, p i x) : ∃ l : List α, l.length = n ∧ ∀ i (hi : i < l.length), p i l[i] := by
  induction n with
  | zero => exact ⟨[], rfl, fun i hi => absurd hi (by simp)⟩
  | succ n ih =>
    obtain ⟨l, hl, hp⟩ := ih fun i hi => h i (by omega)
    obtain ⟨x, hx⟩ := h n (by omega)
    refine ⟨l ++ [x], by simp [hl], fun i hi => ?_⟩
    by_cases hlt : i < l.length
    · rw [List.getElem_append_left hlt]; exact hp i hlt
    · have : i = l.length := by simp at hi; omega
      subst this
      rw [List.getElem_append_right (Nat.le_refl _)]
      simpa [hl] using hx

section
variable {H : Type} {enc : TypeId × Value → H} {P : Program} {w : World} {base : Nat} {spare : Nat → Bool} {held : Bool}

theorem wf_u8 {z : Int} (h : (Lit.int .u8 z).wf = true) : 0 ≤ z ∧ z < 256 := by
  simp only [Lit.wf, Bool.and_eq_true, decide_eq_true_eq] at h
  exact has_u8 h

/-- A slice of bytes that came in, by its reading. -/
theorem open_bytes {t e : TypeId} {fuel : Nat} {v : Value} {x : DataW H × List MemPlace} (ht : P.underlying t = some (.slice e)) (he : P.underlying e = some (.int .u8)) (hc : P.cellsOf e = 1)
    (h : DataW.trod enc P w base spare held fuel t [v] = some x) : ∃ (A : Option Addr) (l : List UInt8) (c : Nat), v = .slice A l.length c ∧ Rd w w.heap.size A (bytesV l) ∧ l.length ≤ c ∧ c ≤ maxLen := by
  rcases open_ints ht he hc h with ⟨hcs, -⟩ | ⟨a, len, cap, zs, hcs, -, hl, hm, hz, -, hcell, hwz⟩
  · injection hcs with hv
    exact ⟨none, [], 0, hv, Rd.nil, by simp, by simp [maxLen]⟩
  · injection hcs with hv
    have hlz : len ≤ zs.length := by rw [hz]; split <;> omega
    have hmap : ((zs.take len).map fun z => UInt8.ofNat z.toNat).length = len := by simp; omega
    refine ⟨some a, (zs.take len).map fun z => UInt8.ofNat z.toNat, cap, by rw [hmap]; exact hv, fun j u hu => ?_, by rw [hmap]; exact hl, hm⟩
    have hj : j < len := by
      have := (List.getElem?_eq_some_iff.1 hu).1
      simp [bytesV] at this; omega
    have hjz : j < zs.length := by omega
    have hcj := hcell j hjz
    have hlt := cell_lt hcj
    rw [addr_block] at hlt
    refine ⟨a, rfl, hlt, ?_⟩
    rw [hcj, ← hu]
    have hw := wf_u8 (hwz zs[j] (List.getElem_mem hjz))
    simp [bytesV, hj, List.getElem?_eq_getElem hjz, UInt8.toNat_ofNat']
    omega

/-- A slice of structs of one-cell fields that came in: each field's cell, and its own reading. -/
theorem open_rows {t e : TypeId} {fs : Array Field} {fuel : Nat} {v : Value} {x : DataW H × List MemPlace} (ht : P.underlying t = some (.slice e)) (he : P.underlying e = some (.struct fs))
    (hone : oneCellFields P fs = true) (hC : P.cellsOf e = fs.size) (h : DataW.trod enc P w base spare held fuel t [v] = some x) :
    ∃ (A : Option Addr) (n c : Nat), v = .slice A n c ∧ n ≤ c ∧ c ≤ maxLen ∧ ∀ i, i < n → ∃ a, A = some a ∧
      ∀ (j : Nat) (f : Field), fs[j]? = some f → ∃ (u : Value) (y : DataW H × List MemPlace) (m : Nat), w.cell? (a.add (i * fs.size + j)) = some u ∧ DataW.trod enc P w base spare held m f.type [u] = some y := by
  rcases open_slice ht h with ⟨hcs, -⟩ | ⟨a, len, cap, m, n, D, Pl, hcs, -, hl, hm, hmm, -, hi⟩
  · injection hcs with hv
    exact ⟨none, 0, 0, hv, Nat.le_refl _, by simp [maxLen], fun i hi => absurd hi (by omega)⟩
  · injection hcs with hv
    refine ⟨some a, len, cap, hv, hl, hm, fun i hil => ⟨a, rfl, fun j f hj => ?_⟩⟩
    have him : i < m := by rw [hmm]; split <;> omega
    obtain ⟨cs', hc, ht'⟩ := hi i him
    rw [hC] at hc
    obtain ⟨ys, n', -, -, -, hyl, hf⟩ := DataW.trod_struct he ht'
    obtain ⟨_, hcl, hat⟩ := World.cells?_some hc
    obtain ⟨ho, hk⟩ := hone_of hone j f hj
    have hjl : j < fs.size := (Array.getElem?_eq_some_iff.1 hj).1
    have hcell := hat j hjl
    have hv : cs'[j]? = some (cs'[j]'(by omega)) := List.getElem?_eq_getElem (by omega)
    have h1 := hf j f hj
    rw [ho, hk] at h1
    have hone' : (cs'.drop j).take 1 = [cs'[j]'(by omega)] := by
      rw [List.drop_eq_getElem_cons (by omega)]
      rfl
    rw [hone'] at h1
    have hys : ys[j]? = some (ys[j]'(by omega)) := List.getElem?_eq_getElem (by omega)
    refine ⟨_, _, n', ?_, h1.trans hys⟩
    rw [← addr_add, hcell, hv]
end
end Go.Proofs.Ytakooljbkjnilaa
namespace Go.Proofs.Ytakooljbkjnilaa
open Go.ChangeShapes Go.WideShapes Go.ChangeAt Go.RowKit

/-- An array of integers by value. -/
def arrK (k : IntKind) (n : Nat) (f : Nat → Nat) : Array Value := Array.ofFn fun i : Fin n => .int k (f i)
theorem arr8_arrK (n : Nat) (f : Nat → Nat) : arr8 n f = arrK .u8 n f := rfl

section
variable {k : IntKind} {n : Nat} {f g : Nat → Nat}
theorem arrK_size (k : IntKind) (n : Nat) (f : Nat → Nat) : (arrK k n f).size = n := by simp [arrK]
theorem arrK_at {i : Nat} (h : i < n) : (arrK k n f)[i]? = some (.int k (f i)) := by simp [arrK, h]
theorem arrK_congr (h : ∀ i < n, f i = g i) : arrK k n f = arrK k n g := by
  apply Array.ext
  · simp [arrK]
  · intro i h1 h2
    simp [arrK, h i (by simpa [arrK] using h1)]
theorem arrK_set {i v : Nat} : (arrK k n f).setIfInBounds i (.int k v) = arrK k n (upd f i v) := by
  apply Array.ext_getElem?
  intro j
  rw [Array.getElem?_setIfInBounds, arrK_size]
  by_cases hj : j < n
  · rw [arrK_at hj, arrK_at hj]
    unfold upd
    by_cases h : i = j
    · subst h; simp [hj]
    · rw [if_neg h, if_neg (fun h' => h h'.symm)]
  · have e : ∀ g : Nat → Nat, (arrK k n g)[j]? = none := fun g => by rw [Array.getElem?_eq_none]; rw [arrK_size]; omega
    rw [e, e]
    split <;> first | rfl | (split <;> first | rfl | omega)
theorem arrK_cells (k : IntKind) (n : Nat) (f : Nat → Nat) : Cells (arrK k n f) n := by
  refine ⟨arrK_size k n f, ?_⟩
  rw [Array.all_eq_true]
  intro i h
  simp [arrK, Value.oneCell']
/-- An array whose cells are known. -/
theorem arrK_of {c : Array Value} (hs : c.size = n) (h : ∀ i < n, c[i]? = some (.int k (f i))) : c = arrK k n f := by
  apply Array.ext_getElem?
  intro j
  by_cases hj : j < n
  · rw [h j hj, arrK_at hj]
  · rw [Array.getElem?_eq_none (by omega), Array.getElem?_eq_none (by rw [arrK_size]; omega)]
end

section
variable {P : Program} {k : IntKind} {n : Nat} {ty e : TypeId} {f g : Nat → Nat}
theorem size_one (hs : (P.info? e).map (·.size) = some 1) (w : World) : (sizeOf e).run P w = .ok 1 w := by
  cases hi : P.info? e with
  | none => simp [hi] at hs
  | some i => simp [hi] at hs; simp [sizeOf, typeInfo, hi, hs]
theorem part_one (he : P.underlying e = some (.int k)) {xs : Array Value} {i : Nat} {v : Value} (h : xs[i]? = some v) (w : World) : (part e xs i).run P w = .ok v w := by
  have r3 : (isAgg e).run P w = .ok false w := by simp [isAgg, run_underlying he]
  unfold part
  simp only [Sem.run_bind, Sem.run_pure, r3, Result.andThen_ok, h, Bool.false_eq_true, if_false]
theorem index_arrK (hu : P.underlying ty = some (.array n e)) (he : P.underlying e = some (.int k)) (hs : (P.info? e).map (·.size) = some 1) {j : Nat} (hj : j < n) (κ : IntKind) (w : World) :
    (Instr.index ty (.agg (arrK k n f)) (.int κ j)).run P w = .ok (.int k (f j)) w := by
  have h1 : (0 : Int) ≤ j ∧ (j : Int) < n := by omega
  have h2 := arrK_at (k := k) (f := f) hj
  unfold Instr.index
  simp only [Sem.run_bind, asIntOf, Sem.run_pure, Result.andThen_ok, run_underlying hu w, h1, size_one hs w, and_self, if_true, Int.toNat_natCast, Nat.mul_one, part_one he h2]

theorem eq_loop (he : P.underlying e = some (.int k)) (d : Nat) (w : World) (l : List Nat) (hl : ∀ i ∈ l, i < n) :
    (forIn l (none, ()) fun i (_ : Option Bool × Unit) => (do
      let a ← part e (arrK k n f) (i * 1)
      let b ← part e (arrK k n g) (i * 1)
      let r ← Op.equalIn (d + 1) e a b
      if (!r) = true then pure (ForInStep.done (some false, ())) else pure (ForInStep.yield (none, ())) : Sem (ForInStep (Option Bool × Unit)))).run P w =
      .ok (if ∀ i ∈ l, f i = g i then (none, ()) else (some false, ())) w := by
  induction l with
  | nil => simp
  | cons i l ih =>
    have hi := hl i (by simp)
    have h1 := part_one (P := P) he (xs := arrK k n f) (i := i * 1) (v := .int k (f i)) (by rw [Nat.mul_one, arrK_at hi]) w
    have h2 := part_one (P := P) he (xs := arrK k n g) (i := i * 1) (v := .int k (g i)) (by rw [Nat.mul_one, arrK_at hi]) w
    simp only [List.forIn_cons, Sem.run_bind, h1, h2, Result.andThen_ok, run_equalIn_int w d e k k (f i) (g i) he, List.forall_mem_cons]
    by_cases h : f i = g i
    · simp only [h, beq_self_eq_true, Bool.not_true, Bool.false_eq_true, if_false, Sem.run_pure, Result.andThen_ok, true_and]
      exact ih fun i hi => hl i (by simp [hi])
    · have h3 : (((f i : Nat) : Int) == ((g i : Nat) : Int)) = false := by simpa using (show ¬ ((f i : Nat) : Int) = ((g i : Nat) : Int) by omega)
      simp [h, h3]
theorem run_equalIn_arrK (hu : P.underlying ty = some (.array n e)) (he : P.underlying e = some (.int k)) (hs : (P.info? e).map (·.size) = some 1) (d : Nat) (w : World) :
    (Op.equalIn (d + 2) ty (.agg (arrK k n f)) (.agg (arrK k n g))).run P w = .ok (decide (∀ i < n, f i = g i)) w := by
  rw [show d + 2 = (d + 1) + 1 from rfl, Op.equalIn.eq_2]
  simp only [Sem.run_bind, run_underlying hu, Result.andThen_ok, size_one hs]
  rw [Std.Legacy.Range.forIn_eq_forIn_range']
  rw [eq_loop he d w _ (fun i hi => by simpa [Std.Legacy.Range.size] using hi)]
  by_cases h : ∀ i < n, f i = g i
  · rw [if_pos (fun i hi => h i (by simpa [Std.Legacy.Range.size] using hi))]
    simp; exact h
  · rw [if_neg (fun h' => h fun i hi => h' i (by simpa [Std.Legacy.Range.size] using hi))]
    simp; simpa using h
theorem run_eql_arrK (hu : P.underlying ty = some (.array n e)) (he : P.underlying e = some (.int k)) (hs : (P.info? e).map (·.size) = some 1) (w : World) :
    (binOp .eql ty (.agg (arrK k n f)) (.agg (arrK k n g))).run P w = .ok (.bool (decide (∀ i < n, f i = g i))) w := by
  rw [run_eql_struct, run_equalIn_arrK hu he hs]; rfl
theorem run_neq_arrK (hu : P.underlying ty = some (.array n e)) (he : P.underlying e = some (.int k)) (hs : (P.info? e).map (·.size) = some 1) (w : World) :
    (binOp .neq ty (.agg (arrK k n f)) (.agg (arrK k n g))).run P w = .ok (.bool (!decide (∀ i < n, f i = g i))) w := by
  rw [run_neq_struct, run_equalIn_arrK hu he hs]; rfl
end
end Go.Proofs.Ytakooljbkjnilaa
namespace Go.Proofs.Ytakooljbkjnilaa
open Go Go.RowKit Go.ChangeShapes Go.WideShapes Go.ChangeAt Go.Deep

section
variable {P : Program} {w : World} {r : Reach} {b0 : Nat} {t : TypeId} {v : Value}

theorem val_int {k : IntKind} (hu : P.underlying t = some (.int k)) (h : Value.okWide P w r b0 t v) : ∃ n, v = .int k n ∧ k.has n := by
  have h' : Cell.okWide P w r b0 t v := by
    unfold Value.okWide at h
    simpa [hu] using h
  exact cell_int hu h'
theorem val_u8 (hu : P.underlying t = some (.int .u8)) (h : Value.okWide P w r b0 t v) : ∃ n : Nat, v = .int .u8 n ∧ n < 256 := by
  obtain ⟨n, rfl, hn⟩ := val_int hu h
  have := has_u8 hn
  exact ⟨n.toNat, by rw [Int.toNat_of_nonneg this.1], by omega⟩
theorem val_u64 (hu : P.underlying t = some (.int .u64)) (h : Value.okWide P w r b0 t v) : ∃ n : Nat, v = .int .u64 n ∧ n < 18446744073709551616 := by
  obtain ⟨n, rfl, hn⟩ := val_int hu h
  have := has_u64 hn
  exact ⟨n.toNat, by rw [Int.toNat_of_nonneg this.1], by omega⟩
theorem val_i64 (hu : P.underlying t = some (.int .i64)) (h : Value.okWide P w r b0 t v) : ∃ n : Int, v = .int .i64 n ∧ -9223372036854775808 ≤ n ∧ n < 9223372036854775808 := by
  obtain ⟨n, rfl, hn⟩ := val_int hu h
  exact ⟨n, rfl, has_i64 hn⟩

/-- An array of unsigned integers by value. -/
theorem val_arr {k : IntKind} {e : TypeId} {n m : Nat} (hk : ∀ z, k.has z → 0 ≤ z ∧ z < m) (hu : P.underlying t = some (.array n e)) (he : P.underlying e = some (.int k)) (hts : P.cellTypes P.depth t = some (List.replicate n e))
    (hC : P.cellsOf t = n) (h : Value.okWide P w r b0 t v) : ∃ f : Nat → Nat, v = .agg (arrK k n f) ∧ ∀ i < n, f i < m := by
  obtain ⟨c, rfl, hc, hx⟩ := open_cells (by simp [hu]) hts (by simp) hC h
  have h1 : ∀ i, ∃ z : Nat, i < n → c[i]? = some (.int k z) ∧ z < m := fun i => by
    by_cases hi : i < n
    · obtain ⟨x, hx1, hx2⟩ := hx i e (by simp [hi])
      obtain ⟨z, rfl, hz⟩ := cell_int he hx2
      have := hk z hz
      exact ⟨z.toNat, fun _ => ⟨by rw [Int.toNat_of_nonneg this.1]; exact hx1, by omega⟩⟩
    · exact ⟨0, fun h => absurd h hi⟩
  refine ⟨fun i => (h1 i).choose, ?_, fun i hi => ((h1 i).choose_spec hi).2⟩
  exact congrArg Value.agg (arrK_of hc.1 fun i hi => ((h1 i).choose_spec hi).1)
end
end Go.Proofs.Ytakooljbkjnilaa
namespace Go.Proofs.Ytakooljbkjnilaa
open Go Go.RowKit Go.ChangeShapes Go.WideShapes Go.ChangeAt Go.Deep

section
variable {H : Type} {enc : TypeId × Value → H} {P : Program} {w : World} {base : Nat} {held : Bool}

/-- What was read is within the reach. -/
def Wt (P : Program) (t : TypeId) (d : DataW H) : Prop := ∀ n ∈ DataW.weights P t d, n ≤ reachBytes

theorem wt_top {ts : List TypeId} {ds : List (DataW H)} (h : (DataW.weightsEach P ts ds).all (· ≤ reachBytes) = true) {j : Nat} {t : TypeId} {d : DataW H} (ht : ts[j]? = some t) (hd : ds[j]? = some d) : Wt P t d := fun n hn => by
  simpa using List.all_eq_true.1 h n (DataW.weights_mem_each ht hd n hn)
theorem wt_all {e : TypeId} : ∀ {l : List (DataW H)} {d : DataW H}, d ∈ l → ∀ n ∈ DataW.weights P e d, n ∈ DataW.weightsAll P e l
  | x :: r, d, h, n, hn => by
      rw [DataW.weightsAll]
      rcases List.mem_cons.1 h with rfl | h
      · exact List.mem_append_left _ hn
      · exact List.mem_append_right _ (wt_all h n hn)
theorem wt_slice {t e : TypeId} {elems spare : List (DataW H)} (h : Wt P t (.slice elems spare)) (hu : P.underlying t = some (.slice e)) : (elems.length + spare.length) * P.bytesOf e ≤ reachBytes ∧ ∀ d ∈ elems, Wt P e d := by
  refine ⟨h _ (by simp [DataW.weights, hu]), fun d hd n hn => h n ?_⟩
  rw [DataW.weights, hu]
  exact List.mem_cons_of_mem _ (List.mem_append_left _ (wt_all hd n hn))
theorem wt_struct {t : TypeId} {fs : Array Field} {parts : List (DataW H)} (h : Wt P t (.agg parts)) (hu : P.underlying t = some (.struct fs)) {j : Nat} {f : Field} {d : DataW H} (hf : fs[j]? = some f) (hd : parts[j]? = some d) : Wt P f.type d := fun n hn => by
  refine h n ?_
  rw [DataW.weights, hu]
  exact DataW.weights_mem_each (by simp [hf]) hd n hn

/-- A slice of bytes that came in, by its reading, and its bound. -/
theorem open_bytes_wt {t e : TypeId} {fuel : Nat} {v : Value} {x : DataW H × List MemPlace} (ht : P.underlying t = some (.slice e)) (he : P.underlying e = some (.int .u8)) (hc : P.cellsOf e = 1) (hb : P.bytesOf e = 1)
    (h : DataW.trod enc P w base (fun _ => true) held fuel t [v] = some x) (hw : Wt P t x.1) : ∃ (A : Option Addr) (l : List UInt8) (c : Nat), v = .slice A l.length c ∧ Rd w w.heap.size A (bytesV l) ∧ l.length ≤ c ∧ c ≤ 140737488351232 := by
  obtain ⟨A, l, c, rfl, h1, h2, h3⟩ := open_bytes ht he hc h
  refine ⟨A, l, c, rfl, h1, h2, ?_⟩
  rcases open_ints ht he hc h with ⟨hcs, -⟩ | ⟨a, len, cap, zs, hcs, -, hl, hm, hz, hx, -, -⟩
  · simp only [List.cons.injEq, Value.slice.injEq, and_true] at hcs
    omega
  · rw [hx] at hw
    have h4 := (wt_slice hw ht).1
    simp only [List.cons.injEq, Value.slice.injEq, and_true] at hcs
    simp only [if_true] at hz
    rw [hb] at h4
    simp [lits] at h4
    unfold reachBytes at h4
    omega

/-- A slice of structs of one-cell fields that came in: each field's cell, and its own reading, and its bound. -/
theorem open_rows_wt {t e : TypeId} {fs : Array Field} {fuel : Nat} {v : Value} {x : DataW H × List MemPlace} (ht : P.underlying t = some (.slice e)) (he : P.underlying e = some (.struct fs))
    (hone : oneCellFields P fs = true) (hC : P.cellsOf e = fs.size) (h : DataW.trod enc P w base (fun _ => true) held fuel t [v] = some x) (hw : Wt P t x.1) :
    ∃ (A : Option Addr) (n c : Nat), v = .slice A n c ∧ n ≤ c ∧ c ≤ maxLen ∧ c * P.bytesOf e ≤ reachBytes ∧ ∀ i, i < n → ∃ a, A = some a ∧
      ∀ (j : Nat) (f : Field), fs[j]? = some f → ∃ (u : Value) (y : DataW H × List MemPlace) (m : Nat), w.cell? (a.add (i * fs.size + j)) = some u ∧ DataW.trod enc P w base (fun _ => true) held m f.type [u] = some y ∧ Wt P f.type y.1 := by
  rcases open_slice ht h with ⟨hcs, -⟩ | ⟨a, len, cap, m, n, D, Pl, hcs, -, hl, hm, hmm, hx, hi⟩
  · injection hcs with hv
    exact ⟨none, 0, 0, hv, Nat.le_refl _, by simp [maxLen], by simp, fun i hi => absurd hi (by omega)⟩
  · injection hcs with hv
    rw [hx] at hw
    obtain ⟨hw1, hw2⟩ := wt_slice hw ht
    simp only [if_true] at hmm
    refine ⟨some a, len, cap, hv, hl, hm, ?_, fun i hil => ⟨a, rfl, fun j f hj => ?_⟩⟩
    · simp only [List.length_map, List.length_range] at hw1
      rw [show len + (m - len) = cap by omega] at hw1
      exact hw1
    have him : i < m := by omega
    obtain ⟨cs', hc, ht'⟩ := hi i him
    have hwi : Wt P e (D i) := hw2 _ (List.mem_map.2 ⟨i, List.mem_range.2 hil, rfl⟩)
    rw [hC] at hc
    obtain ⟨ys, n', -, hxy, -, hyl, hf⟩ := DataW.trod_struct he ht'
    have hDi : D i = .agg (ys.map (·.1)) := congrArg Prod.fst hxy
    rw [hDi] at hwi
    obtain ⟨_, hcl, hat⟩ := World.cells?_some hc
    obtain ⟨ho, hk⟩ := hone_of hone j f hj
    have hjl : j < fs.size := (Array.getElem?_eq_some_iff.1 hj).1
    have hcell := hat j hjl
    have hv : cs'[j]? = some (cs'[j]'(by omega)) := List.getElem?_eq_getElem (by omega)
    have h1 := hf j f hj
    rw [ho, hk] at h1
    have hone' : (cs'.drop j).take 1 = [cs'[j]'(by omega)] := by
      rw [List.drop_eq_getElem_cons (by omega)]
      rfl
    rw [hone'] at h1
    have hys : ys[j]? = some (ys[j]'(by omega)) := List.getElem?_eq_getElem (by omega)
    refine ⟨_, _, n', ?_, h1.trans hys, wt_struct hwi he hj (by rw [List.getElem?_map, hys]; rfl)⟩
    rw [← addr_add, hcell, hv]
end
end Go.Proofs.Ytakooljbkjnilaa
namespace Go.Proofs.Ytakooljbkjnilaa
open Go.ChangeShapes Go.WideShapes Go.ChangeAt Go.RowKit
set_option maxRecDepth 100000
section
variable {H : Type} {enc : TypeId × Value → H} {w : World} {base : Nat} {held : Bool}
theorem open_attrsT {fuel : Nat} {v : Value} {x : DataW H × List MemPlace}
    (hf : DataW.trod enc Try.prog w base (fun _ => true) held fuel 33 [v] = some x) (hw : Wt Try.prog 33 x.1) :
    ∃ (A : Option Addr) (l : List At) (c : Nat), v = .slice A l.length c ∧ Ats w w.heap.size A l ∧ l.length ≤ c ∧ c ≤ maxLen ∧ l.length ≤ 4398046511104 := by
  obtain ⟨A, n, c, hv, hnc, hcm, hcb, hi⟩ := open_rows_wt Try.underlying33 Try.underlying68 (by kernel_rfl) (by kernel_rfl) hf hw
  obtain ⟨l, hl, hp⟩ := list_of n (fun i (x : At) => (∃ a, A = some a ∧ a.block < w.heap.size ∧ w.cell? (a.add (i * 2)) = some (.int .i64 x.kind) ∧ w.cell? (a.add (i * 2 + 1)) = some (.slice x.A x.body.length x.cap)) ∧
      Rd w w.heap.size x.A (bytesV x.body) ∧ x.body.length ≤ x.cap ∧ (x.cap ≤ 9223372036854775807 ∧ x.body.length ≤ 140737488351232)) (by
    intro i hin
    obtain ⟨a, rfl, hf⟩ := hi i hin
    obtain ⟨u0, y0, m0, c0, t0, -⟩ := hf 0 _ rfl
    obtain ⟨u1, y1, m1, c1, t1, w1⟩ := hf 1 _ rfl
    obtain ⟨z, hz, -, -⟩ := DataW.trod_int Try.underlying3 t0
    injection hz with hz
    subst hz
    obtain ⟨A', l', c', rfl, hr, h1, h2⟩ := open_bytes_wt Try.underlying66 Try.underlying5 (by kernel_rfl) (by kernel_rfl) t1 w1
    have hlt := cell_lt c0
    rw [addr_block] at hlt
    exact ⟨⟨z, A', c', l'⟩, ⟨a, rfl, hlt, c0, c1⟩, hr, h1, Nat.le_trans h2 (by omega), Nat.le_trans h1 h2⟩)
  have hb : Try.prog.bytesOf 68 = 32 := by kernel_rfl
  have hrb : reachBytes = 140737488351232 := by rfl
  rw [hb, hrb] at hcb
  refine ⟨A, l, c, by rw [hl]; exact hv, ⟨fun j u hu => ?_, fun x hx => ?_⟩, by omega, hcm, by omega⟩
  · have hj : j / 2 < l.length := by
      rcases Nat.lt_or_ge (j / 2) l.length with h | h
      · exact h
      · exfalso
        obtain ⟨f1, f2⟩ := at_cells l (j / 2)
        rw [List.getElem?_eq_none h] at f1 f2
        rcases Nat.mod_two_eq_zero_or_one j with hm | hm
        · rw [show j = j / 2 * 2 by omega, f1] at hu; cases hu
        · rw [show j = j / 2 * 2 + 1 by omega, f2] at hu; cases hu
    obtain ⟨⟨a, e1, e2, e3, e4⟩, -⟩ := hp (j / 2) hj
    obtain ⟨f1, f2⟩ := at_cells l (j / 2)
    rw [List.getElem?_eq_getElem hj] at f1 f2
    refine ⟨a, e1, e2, ?_⟩
    rcases Nat.mod_two_eq_zero_or_one j with hm | hm
    · have e : j = j / 2 * 2 := by omega
      rw [e] at hu ⊢
      rw [f1] at hu
      rw [e3, ← hu]; rfl
    · have e : j = j / 2 * 2 + 1 := by omega
      rw [e] at hu ⊢
      rw [f2] at hu
      rw [e4, ← hu]; rfl
  · obtain ⟨i, hi', rfl⟩ := List.getElem_of_mem hx
    exact (hp i hi').2
theorem hds_of {A : Option Addr} {l : List Hd} (hp : ∀ i (hi : i < l.length), (∃ a, A = some a ∧ a.block < w.heap.size ∧ w.cell? (a.add (i * 3)) = some (.int .i64 l[i].h) ∧ w.cell? (a.add (i * 3 + 1)) = some (.int .i64 l[i].o) ∧ w.cell? (a.add (i * 3 + 2)) = some (.slice l[i].A l[i].l.length l[i].cap)) ∧
      Ats w w.heap.size l[i].A l[i].l ∧ l[i].l.length ≤ l[i].cap ∧ l[i].cap ≤ maxLen ∧ l[i].l.length ≤ 4398046511104) : HdsIn w w.heap.size A l := by
  refine ⟨fun j u hu => ?_, fun x hx => ?_⟩
  · have hj : j / 3 < l.length := by
      rcases Nat.lt_or_ge (j / 3) l.length with h | h
      · exact h
      · exfalso
        have := hd_flen l
        rw [List.getElem?_eq_none (by omega)] at hu
        cases hu
    obtain ⟨⟨a, e1, e2, e3, e4, e5⟩, -⟩ := hp (j / 3) hj
    obtain ⟨f1, f2, f3⟩ := hd_cells l (j / 3)
    rw [List.getElem?_eq_getElem hj] at f1 f2 f3
    refine ⟨a, e1, e2, ?_⟩
    have hm : j % 3 = 0 ∨ j % 3 = 1 ∨ j % 3 = 2 := by omega
    rcases hm with hm | hm | hm
    · have e : j = j / 3 * 3 := by omega
      rw [e] at hu ⊢
      rw [f1] at hu
      rw [e3, ← hu]; rfl
    · have e : j = j / 3 * 3 + 1 := by omega
      rw [e] at hu ⊢
      rw [f2] at hu
      rw [e4, ← hu]; rfl
    · have e : j = j / 3 * 3 + 2 := by omega
      rw [e] at hu ⊢
      rw [f3] at hu
      rw [e5, ← hu]; rfl
  · obtain ⟨i, hi', rfl⟩ := List.getElem_of_mem hx
    exact (hp i hi').2
theorem open_helds {b0 : Nat} {r : Reach} {v : Value} {d : DataW H} {p : List MemPlace}
    (hv : Value.okWide Try.prog w r b0 27 v) (h : DataW.Trod enc Try.prog w base (fun _ => true) held 27 v d p) (hw : Wt Try.prog 27 d) :
    ∃ (A : Option Addr) (l : List Hd) (c : Nat), v = .slice A l.length c ∧ HdsIn w w.heap.size A l ∧ l.length ≤ 9223372036854775807 ∧ ∀ x ∈ l, (Lit.int .i64 x.o).wf = true := by
  obtain ⟨fuel, hf⟩ := h
  obtain ⟨a0, n0, c0, rfl⟩ := okWide_slice Try.underlying27 hv
  obtain ⟨A, n, c, hv, hnc, hcm, -, hi⟩ := open_rows_wt Try.underlying27 Try.underlying45 (by kernel_rfl) (by kernel_rfl) hf hw
  obtain ⟨l, hl, hp⟩ := list_of n (fun i (x : Hd) => ((∃ a, A = some a ∧ a.block < w.heap.size ∧ w.cell? (a.add (i * 3)) = some (.int .i64 x.h) ∧ w.cell? (a.add (i * 3 + 1)) = some (.int .i64 x.o) ∧ w.cell? (a.add (i * 3 + 2)) = some (.slice x.A x.l.length x.cap)) ∧
      Ats w w.heap.size x.A x.l ∧ x.l.length ≤ x.cap ∧ x.cap ≤ maxLen ∧ x.l.length ≤ 4398046511104) ∧ (Lit.int .i64 x.o).wf = true) (by
    intro i hin
    obtain ⟨a, rfl, hf⟩ := hi i hin
    obtain ⟨u0, y0, m0, c0, t0, -⟩ := hf 0 _ rfl
    obtain ⟨u1, y1, m1, c1, t1, -⟩ := hf 1 _ rfl
    obtain ⟨u2, y2, m2, c2, t2, w2⟩ := hf 2 _ rfl
    obtain ⟨z0, hz0, -, -⟩ := DataW.trod_int Try.underlying3 t0
    obtain ⟨z1, hz1, -, hw1⟩ := DataW.trod_int Try.underlying3 t1
    injection hz0 with hz0
    injection hz1 with hz1
    subst hz0 hz1
    obtain ⟨A', l', c', rfl, hr, q1, q2, q3⟩ := open_attrsT t2 w2
    have hlt := cell_lt c0
    rw [addr_block] at hlt
    exact ⟨⟨z0, z1, A', c', l'⟩, ⟨⟨a, rfl, hlt, c0, c1, c2⟩, hr, q1, q2, q3⟩, hw1⟩)
  refine ⟨A, l, c, by rw [hl]; exact hv, hds_of fun i hi => (hp i hi).1, by unfold maxLen at hcm; omega, fun x hx => ?_⟩
  obtain ⟨i, hi', rfl⟩ := List.getElem_of_mem hx
  exact (hp i hi').2
theorem open_keepings {b0 : Nat} {r : Reach} {v : Value} {d : DataW H} {p : List MemPlace}
    (hv : Value.okWide Try.prog w r b0 30 v) (h : DataW.Trod enc Try.prog w base (fun _ => true) held 30 v d p) (hw : Wt Try.prog 30 d) :
    ∃ (A : Option Addr) (l : List Hd) (c : Nat), v = .slice A l.length c ∧ HdsIn w w.heap.size A l ∧ l.length ≤ 9223372036854775807 ∧ ∀ x ∈ l, (Lit.int .i64 x.o).wf = true := by
  obtain ⟨fuel, hf⟩ := h
  obtain ⟨a0, n0, c0, rfl⟩ := okWide_slice Try.underlying30 hv
  obtain ⟨A, n, c, hv, hnc, hcm, -, hi⟩ := open_rows_wt Try.underlying30 Try.underlying35 (by kernel_rfl) (by kernel_rfl) hf hw
  obtain ⟨l, hl, hp⟩ := list_of n (fun i (x : Hd) => ((∃ a, A = some a ∧ a.block < w.heap.size ∧ w.cell? (a.add (i * 3)) = some (.int .i64 x.h) ∧ w.cell? (a.add (i * 3 + 1)) = some (.int .i64 x.o) ∧ w.cell? (a.add (i * 3 + 2)) = some (.slice x.A x.l.length x.cap)) ∧
      Ats w w.heap.size x.A x.l ∧ x.l.length ≤ x.cap ∧ x.cap ≤ maxLen ∧ x.l.length ≤ 4398046511104) ∧ (Lit.int .i64 x.o).wf = true) (by
    intro i hin
    obtain ⟨a, rfl, hf⟩ := hi i hin
    obtain ⟨u0, y0, m0, c0, t0, -⟩ := hf 0 _ rfl
    obtain ⟨u1, y1, m1, c1, t1, -⟩ := hf 1 _ rfl
    obtain ⟨u2, y2, m2, c2, t2, w2⟩ := hf 2 _ rfl
    obtain ⟨z0, hz0, -, -⟩ := DataW.trod_int Try.underlying3 t0
    obtain ⟨z1, hz1, -, hw1⟩ := DataW.trod_int Try.underlying3 t1
    injection hz0 with hz0
    injection hz1 with hz1
    subst hz0 hz1
    obtain ⟨A', l', c', rfl, hr, q1, q2, q3⟩ := open_attrsT t2 w2
    have hlt := cell_lt c0
    rw [addr_block] at hlt
    exact ⟨⟨z0, z1, A', c', l'⟩, ⟨⟨a, rfl, hlt, c0, c1, c2⟩, hr, q1, q2, q3⟩, hw1⟩)
  refine ⟨A, l, c, by rw [hl]; exact hv, hds_of fun i hi => (hp i hi).1, by unfold maxLen at hcm; omega, fun x hx => ?_⟩
  obtain ⟨i, hi', rfl⟩ := List.getElem_of_mem hx
  exact (hp i hi').2
end
end Go.Proofs.Ytakooljbkjnilaa
