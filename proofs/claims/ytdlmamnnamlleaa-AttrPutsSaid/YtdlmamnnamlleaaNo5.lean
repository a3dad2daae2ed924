/- attr.Norm. -/
import Derived.Test.YtdlmamnnamlleaaNo4
import Derived.Test.YtdlmamnnamlleaaRu14
import Derived.Test.YtdlmamnnamlleaaTail2
namespace Go.Proofs.Ytdlmamnnamlleaa
open Go.ChangeShapes Go.WideShapes Go.ChangeAt Go.RowKit
set_option maxHeartbeats 1000000
set_option maxRecDepth 100000
attribute [local go_sem] kp_refl kp_alloc kp_setCell kp_drew kp_drewN row_new row_old rowAt_new rowAt_old

theorem eval_tmpN {a : Act} {t : Tmp} {v : Value} (h : a.tmps[t]?.getD undef = v) : a.eval (.tmp t) = v := by
  unfold Act.eval; simpa using h
section
variable {P : Program} {o : Oper} {a : Act} {w : World} {K : Act → World → Prop} {Q : Exit → Act → World → Prop} {t : TypeId} {i j : Nat} {x y : Operand} {u vx vy : Value}
theorem wp_bldTwoN (ho : o.op = .build t #[(i, x), (j, y)]) (hx : a.eval x = vx) (hy : a.eval y = vy) (hr : (Instr.build t #[(i, vx), (j, vy)]).run P w = .ok u w) (h : K (a.put o.dst u) w) : Oper.wp P o a w K Q := by
  subst hx hy
  obtain ⟨dst, op, tt, pos, af, gd⟩ := o
  subst ho
  unfold Oper.wp execOp
  simp only [List.map_toArray, List.map_cons, List.map_nil, Sem.run_bind, hr, Result.andThen_ok]
  exact h
end
/-- Bytes in fresh memory, beyond block B. -/
def FrB (B : Nat) (l : List UInt8) (A : Option Addr) (c : Nat) (w : World) : Prop := Rd w w.heap.size A (bytesV l) ∧ l.length ≤ c ∧ c ≤ 9223372036854775807 ∧ ∀ a, A = some a → B ≤ a.block ∧ a.block < w.heap.size
theorem FrB.step {B : Nat} {l : List UInt8} {A : Option Addr} {c : Nat} {w w' : World} (h : FrB B l A c w) (hb : Below w.heap.size w w') : FrB B l A c w' :=
  ⟨(h.1.below hb).more hb.size, h.2.1, h.2.2.1, fun a ha => ⟨(h.2.2.2 a ha).1, Nat.lt_of_lt_of_le (h.2.2.2 a ha).2 hb.size⟩⟩
def SRel.frb (B : Nat) (l : List UInt8) : SRel := ⟨fun v w => ∃ A c, v = .slice A l.length c ∧ FrB B l A c w, fun _ _ _ hb ⟨A, c, h1, h2⟩ => ⟨A, c, h1, h2.step hb⟩⟩
def SRel.fra (B : Nat) (k : Int) (l : List UInt8) : SRel := ⟨fun v w => ∃ A c, v = .agg #[.int .i64 k, .slice A l.length c] ∧ FrB B l A c w, fun _ _ _ hb ⟨A, c, h1, h2⟩ => ⟨A, c, h1, h2.step hb⟩⟩
def SRel.fr1 (B : Nat) (k : Int) (l : List UInt8) : SRel := ⟨fun v w => ∃ g A c te fr, v = .slice (some ⟨g, 0, none⟩) 1 1 ∧ w.heap[g]? = some (.cells #[.int .i64 k, .slice A l.length c] te fr) ∧ FrB B l A c w,
  fun _ _ _ hb ⟨g, A, c, te, fr, h1, h2, h3⟩ => ⟨g, A, c, te, fr, h1, by rw [hb.block g (blk_lt h2)]; exact h2, h3.step hb⟩⟩
theorem build_attr (k : Int) (A : Option Addr) (n c : Nat) (w : World) : (Instr.build 120 #[(0, .int .i64 k), (1, .slice A n c)]).run Try.prog w = .ok (.agg #[.int .i64 k, .slice A n c]) w := run_build w _ _ _ (by kernel_rfl)
/-- What Norm answers. -/
def normL (l : List KV) : List KV := if fault l = 0 then (cardOf l).attrs else []
set_option maxHeartbeats 8000000 in
theorem attr_Norm (A : Option Addr) (l : List At) (c : Nat) (w : World) (h : Ats w w.heap.size A l) (hl : l.length ≤ 9223372036854775807) :
    Calls Try.prog 29 #[.slice A l.length c] w (AtsErr (normL (l.map At.kv)) (fault (l.map At.kv)) w) := by
  have hN : Hid (normL (l.map At.kv) = if fault (l.map At.kv) = 0 then (cardOf (l.map At.kv)).attrs else []) := rfl
  go_enter Try.func29, Try.ntmps29
  go_wp2_with fail
  refine (attr_Check A l c _ h hl).mono ?_
  rintro e w1 ⟨rfl, hb1⟩
  have h1 := h.step hb1
  generalize hF : fault (l.map At.kv) = F at *
  by_cases hf : F = 0
  · subst hf
    have hf := hF
    have hg := Lib.hid (good_of hf)
    have hN1 : Hid (normL (l.map At.kv) = (cardOf (l.map At.kv)).attrs) := by show _ = _; rw [hN.out, if_pos rfl]
    have hll : l.length ≤ 24 := by have := hg.out.len; simpa using this
    clear hf hF hN
    go_wp2
    go_loopw [5, 15] (fun v x wr => ∃ (j : Nat) (o : List At), x = .int .i64 j ∧ j ≤ l.length ∧ Hid (o.map At.kv = (l.map At.kv).take j) ∧ AtsOwn w1.heap.size wr v o ∧ Below w1.heap.size w1 wr ∧ w1.heap.size ≤ wr.heap.size) (fun _ x _ => l.length - (intOf x).toNat)
    case atStart => exact ⟨0, [], rfl, by omega, rfl, AtsOwn.nil _ _, Below.refl _ _, Nat.le_refl _⟩
    case round =>
      obtain ⟨j, o, rfl, hj, ho, hI, hb, hz⟩ := hrel
      have hL := below_step hb hb1 (Nat.le_refl _)
      have hol : o.length = j := by have := congrArg List.length ho.out; simp at this; omega
      obtain ⟨A4, c4, hv4⟩ := own_formA hI.own
      subst hv4
      by_cases hji : j = l.length
      · have ho2 : Hid (o.map At.kv = l.map At.kv) := by show _ = _; rw [ho.out, List.take_of_length_le (by simp [hji])]
        have hcc : o.length ≤ c4 ∧ c4 ≤ 9223372036854775807 := by
          obtain ⟨A6, c6, e6, hc6, -⟩ := hI.ats
          injection e6 with e6 e7 e8
          subst e8
          exact hc6
        have hsrt := Lib.hid (sort_any hI (by omega) hz)
        clear ho hol
        subst hji
        go_wp2_with (go_at_call 84; refine hsrt.out.mono ?_; rintro e w2 ⟨rfl, l', hl1, hl2, hl3, hA2, hb2⟩)
        have hL2 := Below.trans hL (hb2.mono hb1.size)
        have hfin : Hid (l'.map At.kv = (cardOf (l.map At.kv)).attrs) := sorted_eq hg.out (by rw [← ho2.out]; exact hl2.map _) (by rw [List.pairwise_map]; exact hl3)
        clear hl2 hl3
        go_ret2
        rw [hN1.out]
        exact ⟨_, rfl, A4, l', c4, by rw [hl1]; rfl, by rw [hl1]; exact hcc, hfin.out, hA2, hL2⟩
      · have hjl : j < l.length := by omega
        have hol' : o.length ≤ 24 := by omega
        clear hol
        have hw1 := (h1.step hb)
        obtain ⟨ad, rfl, hbl, q1, q2⟩ := hw1.at_ hjl
        obtain ⟨b1, b2, b3⟩ := hw1.body _ (List.getElem_mem hjl)
        have hst : Hid ((l.map At.kv).take (j + 1) = (l.map At.kv).take j ++ [(l[j].kind, l[j].body)]) := take_snoc l hjl
        generalize l[j] = x at *
        obtain ⟨xk, xA, xc, xb⟩ := x
        simp only at q1 q2 b1 b2 b3 hst
        have hbW : Below wr.heap.size wr (wr.alloc (.cells #[.int .i64 xk, .slice xA xb.length xc] 120)) := below_alloc' wr _
        have hIW := Lib.hid (hI.below hbW)
        have hbx := Lib.hid (hb.trans (hbW.mono hz))
        have b4 := Lib.hid ((b1.below hbW).more hbW.size)
        have hcl1 : (wr.alloc (.cells #[.int .i64 xk, .slice xA xb.length xc] 120)).cell? ⟨wr.heap.size, 0, none⟩ = some (.int .i64 xk) := by rw [World.cell?_alloc_at _ _ _ _ rfl]; rfl
        have hcl2 : (wr.alloc (.cells #[.int .i64 xk, .slice xA xb.length xc] 120)).cell? ⟨wr.heap.size, 1, none⟩ = some (.slice xA xb.length xc) := by rw [World.cell?_alloc_at _ _ _ _ rfl]; rfl
        have hown : ∀ g, (Value.slice A4 o.length c4).ownBlock = some g → w1.heap.size ≤ g ∧ g < wr.heap.size := hI.own.lt
        have hWs : (wr.alloc (.cells #[.int .i64 xk, .slice xA xb.length xc] 120)).heap.size = wr.heap.size + 1 := by simp
        go_upto_region 8 with (fail)
        generalize wr.alloc (.cells #[.int .i64 xk, .slice xA xb.length xc] 120) = W at *
        have hcl := Lib.hid (fun V (hV : Below W.heap.size W V) => And.intro ((hV.cell (p := ⟨wr.heap.size, 0, none⟩) (by show wr.heap.size < _; omega)).trans hcl1) (And.intro ((hV.cell (p := ⟨wr.heap.size, 1, none⟩) (by show wr.heap.size < _; omega)).trans hcl2) ((b4.out.below hV).more hV.size)))
        clear hcl1 hcl2 q1 q2 b1 hw1 hbW
        generalize ha0 : Act.mk _ _ = a0
        have e5 : a0.tmps[5]?.getD undef = .slice A4 o.length c4 := by rw [← ha0]; rfl
        have e7 : a0.tmps[7]?.getD undef = .pointer (some ⟨wr.heap.size, 0, none⟩) := by rw [← ha0]; rfl
        have hz0 : a0.tmps.size = 32 := by rw [← ha0]; rfl
        have hha0 := Lib.hid ha0
        clear ha0
        refine wp_region_tailL (fun jx_ => match jx_ with | 0 => SRel.is (.slice A4 o.length c4) | 1 => SRel.is (.pointer (some ⟨wr.heap.size, 0, none⟩)) | 2 => SRel.is (.int .i64 xk) | 3 => SRel.is (.pointer (some ⟨wr.heap.size, 1, none⟩)) | 4 => SRel.is (.slice xA xb.length xc) | 5 => SRel.frb W.heap.size xb | 6 => SRel.fra W.heap.size xk xb | 7 => SRel.fr1 W.heap.size xk xb | 8 => SRel.any | 9 => SRel.any | _ => SRel.any) 8 (by kernel_rfl) (by kernel_rfl) (by kernel_rfl) (slotsOk_of hz0 (by kernel_rfl)) (by kernel_rfl) (of_decide_eq_true (by kernel_rfl)) ⟨?_, ?_, ?_, ?_, ?_, ?_, ?_, ?_, trivial⟩ ?_
        · refine calmL_step rfl fun a ω κ hb hu hc hK => ?_
          have h5 : a.tmps[5]?.getD undef = .slice A4 o.length c4 := (hu 5 rfl).trans e5
          have hk := Lib.hid (fun w1 (h : Below ω.heap.size ω w1) => hK (.slice A4 o.length c4) w1 rfl h)
          clear hK hu hc
          go_simp
          exact hk.out _ (Below.refl _ _)
        · refine calmL_step rfl fun a ω κ hb hu hc hK => ?_
          have h7 : a.tmps[7]?.getD undef = .pointer (some ⟨wr.heap.size, 0, none⟩) := (hu 7 rfl).trans e7
          have hk := Lib.hid (fun w1 (h : Below ω.heap.size ω w1) => hK (.pointer (some ⟨wr.heap.size, 0, none⟩)) w1 rfl h)
          clear hK hu hc
          go_simp
          exact hk.out _ (Below.refl _ _)
        · refine calmL_step rfl fun a ω κ hb hu hc hK => ?_
          have h20 : a.tmps[20]?.getD undef = .pointer (some ⟨wr.heap.size, 0, none⟩) := hc 1 20 rfl rfl
          have hk := Lib.hid (fun w1 (h : Below ω.heap.size ω w1) => hK (.int .i64 xk) w1 rfl h)
          clear hK hu hc
          have q1 := (hcl.out ω hb).1
          go_simp
          exact hk.out _ (Below.refl _ _)
        · refine calmL_step rfl fun a ω κ hb hu hc hK => ?_
          have h7 : a.tmps[7]?.getD undef = .pointer (some ⟨wr.heap.size, 0, none⟩) := (hu 7 rfl).trans e7
          have hk := Lib.hid (fun w1 (h : Below ω.heap.size ω w1) => hK (.pointer (some ⟨wr.heap.size, 1, none⟩)) w1 rfl h)
          clear hK hu hc
          go_simp
          exact hk.out _ (Below.refl _ _)
        · refine calmL_step rfl fun a ω κ hb hu hc hK => ?_
          have h22 : a.tmps[22]?.getD undef = .pointer (some ⟨wr.heap.size, 1, none⟩) := hc 3 22 rfl rfl
          have hk := Lib.hid (fun w1 (h : Below ω.heap.size ω w1) => hK (.slice xA xb.length xc) w1 rfl h)
          clear hK hu hc
          have q1 := (hcl.out ω hb).2.1
          go_simp
          exact hk.out _ (Below.refl _ _)
        · refine calmL_step rfl fun a ω κ hb hu hc hK => ?_
          have h23 : a.tmps[23]?.getD undef = .slice xA xb.length xc := hc 4 23 rfl rfl
          have hk := Lib.hid (fun v w1 (hv : (SRel.frb W.heap.size xb).p v w1) (h : Below ω.heap.size ω w1) => hK v w1 hv h)
          clear hK hu hc
          go_simp
          go_at_call 83
          refine (bytes_cloneF xA xb xc _ (hcl.out ω hb).2.2 b3.2).mono ?_
          rintro e w1 ⟨v, rfl, A8, c8, rfl, hr8, hx8, hc8, hb8, hf8⟩
          exact hk.out _ _ ⟨A8, c8, rfl, hr8, hx8, hc8, fun a ha => ⟨Nat.le_trans hb.size (hf8 a ha).1, (hf8 a ha).2⟩⟩ hb8
        · refine calmL_step rfl fun a ω κ hb hu hc hK => ?_
          have h21 : a.tmps[21]?.getD undef = .int .i64 xk := hc 2 21 rfl rfl
          have h24 : (SRel.frb W.heap.size xb).p (a.tmps[24]?.getD undef) ω := hc 5 24 rfl rfl
          have hk := Lib.hid (fun v w1 (hv : (SRel.fra W.heap.size xk xb).p v w1) (h : Below ω.heap.size ω w1) => hK v w1 hv h)
          clear hK hu hc
          obtain ⟨A, c, e8, hB⟩ := h24
          refine wp_bldTwoN rfl (vx := .int .i64 xk) (vy := .slice A xb.length c) (by go_simp) (eval_tmpN e8) (build_attr xk A xb.length c ω) ?_
          exact hk.out _ _ ⟨A, c, rfl, hB⟩ (Below.refl _ _)
        · refine calmL_step rfl fun a ω κ hb hu hc hK => ?_
          have h25 : (SRel.fra W.heap.size xk xb).p (a.tmps[25]?.getD undef) ω := hc 6 25 rfl rfl
          have hk := Lib.hid (fun v w1 (hv : (SRel.fr1 W.heap.size xk xb).p v w1) (h : Below ω.heap.size ω w1) => hK v w1 hv h)
          clear hK hu hc
          obtain ⟨A, c, e8, hB⟩ := h25
          go_simp
          exact hk.out _ _ ⟨ω.heap.size, A, c, _, _, rfl, push_new _ _, hB.step (below_alloc' _ _)⟩ (below_alloc' _ _)
        · intro aa ω hb hu hsz hdf hc
          have h19 : aa.tmps[19]?.getD undef = .slice A4 o.length c4 := hc 0 19 (by decide) rfl
          have h20 : aa.tmps[20]?.getD undef = .pointer (some ⟨wr.heap.size, 0, none⟩) := hc 1 20 (by decide) rfl
          have h21 : aa.tmps[21]?.getD undef = .int .i64 xk := hc 2 21 (by decide) rfl
          have h22 : aa.tmps[22]?.getD undef = .pointer (some ⟨wr.heap.size, 1, none⟩) := hc 3 22 (by decide) rfl
          have h23 : aa.tmps[23]?.getD undef = .slice xA xb.length xc := hc 4 23 (by decide) rfl
          have h26 : (SRel.fr1 W.heap.size xk xb).p (aa.tmps[26]?.getD undef) ω := hc 7 26 (by decide) rfl
          have ha0 := hha0.out
          subst ha0
          have he := act_patchL (n := 32) 8 [false, false, false, false, false, false, false, false, false, false, false, false, false, false, false, false, false, false, false, true, true, true, true, true, true, true, true, false, false, false, false, false] rfl (by kernel_rfl) hu hsz hdf
          simp only [patch, cond_true, cond_false, Nat.reduceAdd] at he
          clear hu hsz hdf hc hha0 e5 e7 hz0
          rw [he]
          clear he
          generalize aa.tmps[19]?.getD undef = x19 at *
          generalize aa.tmps[20]?.getD undef = x20 at *
          generalize aa.tmps[21]?.getD undef = x21 at *
          generalize aa.tmps[22]?.getD undef = x22 at *
          generalize aa.tmps[23]?.getD undef = x23 at *
          generalize aa.tmps[24]?.getD undef = x24 at *
          generalize aa.tmps[25]?.getD undef = x25 at *
          generalize aa.tmps[26]?.getD undef = x26 at *
          subst h19 h20 h21 h22 h23
          obtain ⟨g9, A9, c9, te, fr, rfl, hg9, hF9⟩ := h26
          have hIX := Lib.hid (hIW.out.below hb)
          have hbX := Lib.hid (hbx.out.trans (hb.mono (by omega)))
          have hWX := hb.size
          obtain ⟨f1, f2, f3, f4⟩ := hF9
          dsimp only [List.drop]
          go_wp2_with (at_builtin; go_must (refine wpList_ats rfl (.tmp 19) (.tmp 26) rfl rfl hIX.out (by omega) ⟨xk, A9, c9, xb⟩ (g := g9) rfl hg9 f1 ⟨f2, f3, b3.2⟩ (fun a ha => ⟨(f4 a ha).2, fun e => by have := (hown _ e.symm).2; have := (f4 a ha).1; omega⟩) (by omega) ?_); intro v2 w2 hI2 hb2 hk2 hz2)
          go_roundw
          case rel =>
            refine ⟨j + 1, o ++ [⟨xk, A9, c9, xb⟩], by go_num, by omega, by show _ = _; rw [hst.out, List.map_append, ho.out]; rfl, hI2, ?_, by omega⟩
            exact hbX.out.trans (hb2.mono (Nat.le_refl _))
          case measure => simp [intOf]; omega
  · have hN2 : Hid (normL (l.map At.kv) = []) := by show _ = _; rw [hN.out, if_neg hf]
    have hb0 : (F == 0) = false := by simpa using hf
    have hb1' : (F != 0) = true := by simpa using hf
    clear hf hF
    go_wp2
    go_ret2
    rw [hN2.out]
    exact ⟨_, rfl, AtsR.nil hb1⟩
end Go.Proofs.Ytdlmamnnamlleaa
