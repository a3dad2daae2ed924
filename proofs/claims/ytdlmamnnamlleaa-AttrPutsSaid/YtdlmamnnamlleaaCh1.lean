/- attr.Over. -/
import Derived.Test.YtdlmamnnamlleaaNo5
import Derived.Test.YtdlmamnnamlleaaCh2
namespace Go.Proofs.Ytdlmamnnamlleaa
open Go.ChangeShapes Go.WideShapes Go.ChangeAt Go.RowKit
set_option maxHeartbeats 1000000
set_option maxRecDepth 100000
attribute [local go_sem] kp_refl kp_alloc kp_setCell kp_drew kp_drewN row_new row_old rowAt_new rowAt_old

theorem flat_one (l : List At) : ∀ u ∈ l.flatMap At.cells, u.oneCell' = true := by
  intro u hu
  obtain ⟨x, -, hx⟩ := List.mem_flatMap.1 hu
  simp [At.cells] at hx
  rcases hx with rfl | rfl <;> rfl
/-- slices.Clone of attributes: the same cells in memory of the call's own. -/
theorem attrs_clone (A : Option Addr) (l : List At) (c : Nat) (w : World) (h : Ats w w.heap.size A l) (hl : l.length ≤ 100000) :
    Calls Try.prog 104 #[.slice A l.length c] w fun e w' => ∃ v, e = .returned v ∧ w'.ownsRow w.heap.size 120 2 v l.length (l.flatMap At.cells) ∧ Below w.heap.size w w' := by
  cases A with
  | none =>
    have hn : l = [] := by
      cases l with
      | nil => rfl
      | cons b r => obtain ⟨ad, h1, -⟩ := h.cells 0 _ rfl; cases h1
    subst hn
    have hq : ∀ W : World, (binOp .eql 32 (.slice none 0 c) (.slice none 0 0)).run Try.prog W = .ok (.bool true) W := fun W => run_eql_nil_slice W _ _ none 0 0 0 c Try.underlying32
    go_enter Try.func104, Try.ntmps104
    go_wp2
    go_ret
    exact ⟨_, rfl, World.ownsRow_nil _ _ _ _, Below.refl _ _⟩
  | some ad =>
    have hq : ∀ W : World, (binOp .eql 32 (.slice (some ad) l.length c) (.slice none 0 0)).run Try.prog W = .ok (.bool false) W := fun W => Lib.run_eql_slice_nil W _ _ (some ad) _ _ _ _ Try.underlying32
    have hb := below_alloc' w (.cells #[] 120)
    have hr : Rd (w.alloc (.cells #[] 120)) w.heap.size (some ad) (l.flatMap At.cells) := h.cells.below hb
    have hO : (w.alloc (.cells #[] 120)).ownsRow w.heap.size 120 2 (.slice (some ⟨w.heap.size, 0, none⟩) 0 0) 0 [] := ⟨rfl, .inr ⟨w.heap.size, 0, #[], rfl, Nat.le_refl _, push_new _ _, Nat.le_refl _, by unfold maxLen; omega, rfl, rfl⟩⟩
    go_enter Try.func104, Try.ntmps104
    go_wp2_with (at_builtin; refine wpList_app (o := ⟨some 7, _, _, _, _, _⟩) rfl (.tmp 5) (.tmp 6) 32 rfl SAt rfl hO (m := l.length) (news := l.flatMap At.cells) rfl (flat_len l) hr (flat_one l) (by unfold maxLen; omega) (by omega) (by simp) ?_; intro v1 w1 hO1 hg1 hat1; clear hat1)
    go_ret
    refine ⟨_, rfl, ?_, ?_⟩
    · simpa using hO1
    · exact (hb.grown hg1 (by simp) (fun k hk => by have hk : some w.heap.size = some k := hk; injection hk with hk; omega))
/-- What Over answers. -/
def overZ (l t : List KV) : Int := if fault l ≠ 0 then fault l else fault t
def overS (l t : List KV) : List KV := if fault l ≠ 0 then [] else if fault t ≠ 0 then [] else ((cardOf l).upon (cardOf t)).attrs
theorem isNone_has {l : List At} {k : Int} {i : Nat} (h : Has l k i) : (lookK (l.map At.kv) k).isNone = false := by rw [← look_kv, look_has h]; rfl
theorem isNone_hasnt {l : List At} {k : Int} (h : Hasnt l k) : (lookK (l.map At.kv) k).isNone = true := by rw [← look_kv, look_hasnt h]; rfl
set_option maxHeartbeats 8000000 in
theorem attr_Over (A1 A2 : Option Addr) (l m : List At) (c1 c2 : Nat) (w : World) (h1 : Ats w w.heap.size A1 l) (h2 : Ats w w.heap.size A2 m) (hl : l.length ≤ 9223372036854775807) (hm : m.length ≤ 9223372036854775807) :
    Calls Try.prog 45 #[.slice A1 l.length c1, .slice A2 m.length c2] w (AtsErr (overS (l.map At.kv) (m.map At.kv)) (overZ (l.map At.kv) (m.map At.kv)) w) := by
  have hS : Hid (overS (l.map At.kv) (m.map At.kv) = if fault (l.map At.kv) ≠ 0 then [] else if fault (m.map At.kv) ≠ 0 then [] else ((cardOf (l.map At.kv)).upon (cardOf (m.map At.kv))).attrs) := rfl
  have hZ : Hid (overZ (l.map At.kv) (m.map At.kv) = if fault (l.map At.kv) ≠ 0 then fault (l.map At.kv) else fault (m.map At.kv)) := rfl
  go_enter Try.func45, Try.ntmps45
  go_wp2_with fail
  refine (attr_Check A1 l c1 _ h1 hl).mono ?_
  rintro e w1 ⟨rfl, hb1⟩
  have p1 := h1.step hb1
  have q1 := h2.step hb1
  generalize hF : fault (l.map At.kv) = F at *
  by_cases hf : F = 0
  · subst hf
    have hg := Lib.hid (good_of hF)
    have hS1 : Hid (overS (l.map At.kv) (m.map At.kv) = if fault (m.map At.kv) ≠ 0 then [] else ((cardOf (l.map At.kv)).upon (cardOf (m.map At.kv))).attrs) := by show _ = _; rw [hS.out, if_neg (by simp)]
    have hZ1 : Hid (overZ (l.map At.kv) (m.map At.kv) = fault (m.map At.kv)) := by show _ = _; rw [hZ.out, if_neg (by simp)]
    clear hS hZ hF
    go_wp2_with fail
    refine (attr_Check A2 m c2 _ q1 hm).mono ?_
    rintro e w2 ⟨rfl, hb2⟩
    have p2 := p1.step hb2
    have q2 := q1.step hb2
    have hL2 := below_step hb2 hb1 (Nat.le_refl _)
    generalize hG : fault (m.map At.kv) = G at *
    by_cases hgz : G = 0
    · subst hgz
      have ht := Lib.hid (good_of hG)
      have hS2 : Hid (overS (l.map At.kv) (m.map At.kv) = ((cardOf (l.map At.kv)).upon (cardOf (m.map At.kv))).attrs) := by show _ = _; rw [hS1.out, if_neg (by simp)]
      clear hS1 hG p1 q1 hb1 hb2
      have hll : l.length ≤ 24 := by have := hg.out.len; simpa using this
      have hmm : m.length ≤ 24 := by have := ht.out.len; simpa using this
      go_wp2_with fail
      refine (attrs_clone A2 m c2 _ q2 (by omega)).mono ?_
      rintro e w3 ⟨v, rfl, hO3, hb3⟩
      have hL3 := below_step hb3 hL2 (Nat.le_refl _)
      obtain ⟨A3, c3, hv3⟩ := own_formA hO3
      subst hv3
      have hz3 := hb3.size
      go_wp2
      go_loopw [8, 25] (fun v x wr => ∃ (j : Nat) (o : List At), x = .int .i64 j ∧ j ≤ l.length ∧ Hid (o.map At.kv = m.map At.kv ++ ((l.map At.kv).take j).filter fun x => (lookK (m.map At.kv) x.1).isNone) ∧ o.length ≤ m.length + j ∧ wr.ownsRow w2.heap.size 120 2 v o.length (o.flatMap At.cells) ∧ Hid (∀ x ∈ o, x ∈ m ∨ x ∈ l) ∧ Below w2.heap.size w2 wr ∧ w2.heap.size ≤ wr.heap.size) (fun _ x _ => l.length - (intOf x).toNat)
      case atStart => exact ⟨0, m, rfl, by omega, by show _ = _; simp, by omega, hO3, fun x hx => .inl hx, hb3, hz3⟩
      case round =>
        clear hO3 hb3 hL3 hz3
        obtain ⟨j, o, rfl, hj, ho, hol, hO, hmem, hb, hz⟩ := hrel
        have hL := below_step hb hL2 (Nat.le_refl _)
        have hx1 := p2.step hb
        have hx2 := q2.step hb
        obtain ⟨A4, c4, hv4⟩ := own_formA hO
        subst hv4
        by_cases hji : j = l.length
        · subst hji
          have hok : Hid (o.map At.kv = overK (l.map At.kv) (m.map At.kv)) := by show _ = _; rw [ho.out, List.take_of_length_le (by simp)]; rfl
          have hov : Hid (normL (o.map At.kv) = overS (l.map At.kv) (m.map At.kv) ∧ fault (o.map At.kv) = 0) := by
            have hgo := over_good hg.out ht.out
            have hz0 := hgo.zero
            refine ⟨?_, by rw [hok.out]; exact hz0⟩
            rw [hok.out, hS2.out]
            unfold normL
            rw [if_pos hz0, over_card]
          have hAo : Ats wr wr.heap.size A4 o := ⟨Rd.of_own hO, fun x hx => by
            rcases hmem.out x hx with h | h
            · exact hx2.body x h
            · exact hx1.body x h⟩
          have hnm := Lib.hid (attr_Norm A4 o c4 _ hAo (by omega))
          rw [hov.out.1, hov.out.2] at hnm
          clear hO hAo hx1 hx2 ho hb
          go_wp2_with fail
          refine hnm.out.mono ?_
          rintro e w4 ⟨v, rfl, Ar, lr, cr, rfl, hcr, hre, hAr, hbr⟩
          have hLr := below_step hbr hL (Nat.le_refl _)
          go_wp2
          go_ret2
          rw [hZ1.out]
          exact ⟨_, rfl, Ar, lr, cr, rfl, hcr, hre, hAr, hLr⟩
        · have hjl : j < l.length := by omega
          obtain ⟨ad, rfl, hbl, q1, q2'⟩ := hx1.at_ hjl
          have b1 := (hx1.body _ (List.getElem_mem hjl)).1
          have hmj : Hid (l[j] ∈ l) := List.getElem_mem hjl
          have hst : Hid ((l.map At.kv).take (j + 1) = (l.map At.kv).take j ++ [(l[j].kind, l[j].body)]) := take_snoc l hjl
          have hkk : Hid (l[j].kv = (l[j].kind, l[j].body)) := rfl
          have hcell : Hid (l[j].cells = [.int .i64 l[j].kind, .slice l[j].A l[j].body.length l[j].cap]) := rfl
          generalize l[j] = x at *
          obtain ⟨xk, xA, xc, xb⟩ := x
          simp only at q1 q2' b1 hst hkk hcell
          have hbW : Below wr.heap.size wr (wr.alloc (.cells #[.int .i64 xk, .slice xA xb.length xc] 120)) := below_alloc' wr _
          have hy2 := hx2.step hbW
          have hOW := own_belowA hO hbW
          have hbx := hb.trans (hbW.mono hz)
          rcases has_or m xk with ⟨i, hi⟩ | hn
          · have hno := Lib.hid (isNone_has hi)
            go_wp2_with fail
            refine (find_has _ m _ i xk _ hy2 hm hi).mono ?_
            rintro e w4 ⟨rfl, hb4⟩
            have hO4 := own_belowA hOW hb4
            have hL4 := below_step hb4 hbx (by simp)
            have hz4 := hb4.size
            have d1 : decide ((i : Int) < 0) = false := by simp
            go_wp2
            go_roundw
            case rel => exact ⟨j + 1, o, by go_num, by omega, by show _ = _; rw [hst.out, List.filter_append, ho.out]; simp [hno.out], by omega, hO4, hmem, hL4, by simp at hz4; omega⟩
            case measure => simp [intOf]; omega
          · have hyes := Lib.hid (isNone_hasnt hn)
            go_wp2_with fail
            refine (find_hasnt _ m _ xk _ hy2 hm hn).mono ?_
            rintro e w4 ⟨rfl, hb4⟩
            have hO4 := own_belowA hOW hb4
            have hL4 := below_step hb4 hbx (by simp)
            have hz4 := hb4.size
            obtain ⟨e1, e2⟩ := bcell hb4
            have hbV := below_alloc' w4 (.cells #[.int .i64 xk, .slice xA xb.length xc] 120)
            have hOV := Lib.hid (own_belowA hO4 hbV)
            have hLV := Lib.hid (hL4.trans (hbV.mono (by simp at hz4; omega)))
            go_wp2_with (at_builtin; go_must (refine wpList_app rfl (.tmp 34) (.tmp 36) 32 rfl SAt rfl hOV.out (m := 1) (news := At.cells ⟨xk, xA, xc, xb⟩) rfl rfl (Rd.of_blk (g := w4.heap.size) (blk_new _ _ rfl) (Nat.lt_succ_self _)) (by intro u hu; simp [At.cells] at hu; rcases hu with rfl | rfl <;> rfl) (by unfold maxLen; omega) (by omega) (by simp at hz4 ⊢; omega) ?_); intro v2 w5 hO5 hg5 hat5; clear hat5)
            go_roundw
            case rel =>
              refine ⟨j + 1, o ++ [⟨xk, xA, xc, xb⟩], by go_num, by omega, by show _ = _; rw [hst.out, List.filter_append, List.map_append, ho.out]; simp [hyes.out, At.kv], by simp; omega, by simpa using hO5, ?_, ?_, ?_⟩
              · intro y hy
                rcases List.mem_append.1 hy with h | h
                · exact hmem.out y h
                · have : y = ⟨xk, xA, xc, xb⟩ := by simpa using h
                  subst this
                  exact .inr hmj.out
              · exact hLV.out.grown hg5 (by simp at hz4 ⊢; omega) (fun k hk => (hOV.out.lt k hk).1)
              · have := hg5.size
                simp at this hz4; omega
            case measure => simp [intOf]; omega
    · have hS2 : Hid (overS (l.map At.kv) (m.map At.kv) = []) := by show _ = _; rw [hS1.out, if_pos hgz]
      have hb0 : (G == 0) = false := by simpa using hgz
      have hb1' : (G != 0) = true := by simpa using hgz
      clear hgz hG hS1
      go_wp2
      go_ret2
      rw [hS2.out, hZ1.out]
      exact ⟨_, rfl, AtsR.nil hL2⟩
  · have hS2 : Hid (overS (l.map At.kv) (m.map At.kv) = []) := by show _ = _; rw [hS.out, if_pos hf]
    have hZ2 : Hid (overZ (l.map At.kv) (m.map At.kv) = F) := by show _ = _; rw [hZ.out, if_pos hf]
    have hb0 : (F == 0) = false := by simpa using hf
    have hb1' : (F != 0) = true := by simpa using hf
    clear hf hF
    go_wp2
    go_ret2
    rw [hS2.out, hZ2.out]
    exact ⟨_, rfl, AtsR.nil hb1⟩
end Go.Proofs.Ytdlmamnnamlleaa
