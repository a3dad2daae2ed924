/- Package store: own (a copy of a slice of attributes in fresh memory). -/
import Derived.Test.YtakooljbkjnilaaSt1
import Derived.Test.YtakooljbkjnilaaNo3
namespace Go.Proofs.Ytakooljbkjnilaa
open Go.ChangeShapes Go.WideShapes Go.ChangeAt Go.RowKit
set_option maxHeartbeats 1000000
set_option maxRecDepth 100000
attribute [local go_sem] kp_refl kp_alloc kp_setCell kp_drew kp_drewN row_new row_old rowAt_new rowAt_old

def atK : Kd At := ⟨68, 2, At.cells, At.A, At.cap, At.body⟩
/-- What own hands back: the same attributes, in memory of the call's own. -/
def OwnR (s : List KV) (w : World) (e : Ending) (w' : World) : Prop := ∃ v l', e = .returned v ∧ OwnK atK w.heap.size w' v l' ∧ l'.map At.kv = s ∧ (∀ x ∈ l', x.body.length ≤ 140737488351232) ∧ Below w.heap.size w w'
theorem take_snocK (l : List At) {j : Nat} (h : j < l.length) : (l.map At.kv).take (j + 1) = (l.map At.kv).take j ++ [(l[j].kind, l[j].body)] := take_snoc l h
set_option maxHeartbeats 4000000 in
theorem store_own (A : Option Addr) (l : List At) (c : Nat) (w : World) (h : Ats w w.heap.size A l) (hl : l.length ≤ 4398046511104) :
    Calls Try.prog 13 #[.slice A l.length c] w (OwnR (l.map At.kv) w) := by
  go_enter Try.func13, Try.ntmps13
  go_wp2
  go_loopw [3, 8] (fun v x wr => ∃ (j : Nat) (o : List At), x = .int .i64 j ∧ j ≤ l.length ∧ Hid (o.map At.kv = (l.map At.kv).take j) ∧ OwnK atK w.heap.size wr v o ∧ Hid (∀ x ∈ o, x.body.length ≤ 140737488351232) ∧ Below w.heap.size w wr) (fun _ x _ => l.length - (Go.RowKit.intOf x).toNat)
  case atStart => exact ⟨0, [], rfl, by omega, rfl, OwnK.start _ _ _, fun x hx => by simp at hx, Below.refl _ _⟩
  case round =>
    obtain ⟨j, o, rfl, hj, ho, hI, hbd, hb⟩ := hrel
    have hz := hb.size
    have hol : o.length = j := by have := congrArg List.length ho.out; simp at this; omega
    by_cases hji : j = l.length
    · have ho2 : Hid (o.map At.kv = l.map At.kv) := by show _ = _; rw [ho.out, List.take_of_length_le (by simp [hji])]
      subst hji
      go_wp2
      go_ret
      exact ⟨_, o, rfl, hI, ho2.out, hbd.out, hb⟩
    · have hjl : j < l.length := by omega
      have hw1 := h.step hb
      obtain ⟨ad, rfl, hbl, q1, q2⟩ := hw1.at_ hjl
      obtain ⟨b1, b2, b3⟩ := hw1.body _ (List.getElem_mem hjl)
      have hst : Hid ((l.map At.kv).take (j + 1) = (l.map At.kv).take j ++ [(l[j].kind, l[j].body)]) := take_snocK l hjl
      generalize l[j] = x at *
      obtain ⟨xk, xA, xc, xb⟩ := x
      simp only at q1 q2 b1 b2 b3 hst
      go_upto_region 5 with (fail)
      have hbW : Below wr.heap.size wr (wr.alloc (.cells #[.int .i64 xk, .slice xA xb.length xc] 68)) := below_alloc' wr _
      have hcl1 : (wr.alloc (.cells #[.int .i64 xk, .slice xA xb.length xc] 68)).cell? ⟨wr.heap.size, 0, none⟩ = some (.int .i64 xk) := by rw [World.cell?_alloc_at _ _ _ _ rfl]; rfl
      have hcl2 : (wr.alloc (.cells #[.int .i64 xk, .slice xA xb.length xc] 68)).cell? ⟨wr.heap.size, 1, none⟩ = some (.slice xA xb.length xc) := by rw [World.cell?_alloc_at _ _ _ _ rfl]; rfl
      have hfz : ∀ i, (wr.alloc (.cells #[.int .i64 xk, .slice xA xb.length xc] 68)).frozen? ⟨wr.heap.size, i, none⟩ = false := fun i => by rw [World.frozen?_alloc_at _ _ _ _ rfl]
      have hrow : Row (wr.alloc (.cells #[.int .i64 xk, .slice xA xb.length xc] 68)) wr.heap.size 2 := by simp [row_new]
      have b4 := (b1.below hbW).more hbW.size
      have hIW := hI.step hbW
      have hWs : (wr.alloc (.cells #[.int .i64 xk, .slice xA xb.length xc] 68)).heap.size = wr.heap.size + 1 := by simp
      have hoW := hI.own.lt
      generalize wr.alloc (.cells #[.int .i64 xk, .slice xA xb.length xc] 68) = W at *
      go_wp2_with fail
      refine (bytes_cloneF xA xb xc _ b4 b3.2).mono ?_
      rintro e w4 ⟨v, rfl, A', c', rfl, hrd, hcl, hcm, hb4, hfar⟩
      have hz4 := hb4.size
      have hg4 : wr.heap.size < w4.heap.size := by omega
      have f1 : w4.cell? ⟨wr.heap.size, 0, none⟩ = some (.int .i64 xk) := (hb4.cell (p := ⟨wr.heap.size, 0, none⟩) (by show wr.heap.size < _; omega)).trans hcl1
      have f2 : w4.cell? ⟨wr.heap.size, 1, none⟩ = some (.slice xA xb.length xc) := (hb4.cell (p := ⟨wr.heap.size, 1, none⟩) (by show wr.heap.size < _; omega)).trans hcl2
      have f3 : ∀ i, w4.frozen? ⟨wr.heap.size, i, none⟩ = false := fun i => (World.frozen?_of_block (hb4.block wr.heap.size (by omega))).trans (hfz i)
      have hbV : Below wr.heap.size wr (w4.setCell ⟨wr.heap.size, 1, none⟩ (.slice A' xb.length c')) := (hbW.trans (hb4.mono (by omega))).setCell (Nat.le_refl _) _
      go_upto_region 6 with (fail)
      have v1 : (w4.setCell ⟨wr.heap.size, 1, none⟩ (.slice A' xb.length c')).cell? ⟨wr.heap.size, 0, none⟩ = some (.int .i64 xk) := (World.cell?_setCell_other _ _ _ _ (by intro e; injection e with e1 e2; cases e2)).trans f1
      have v2 : (w4.setCell ⟨wr.heap.size, 1, none⟩ (.slice A' xb.length c')).cell? ⟨wr.heap.size, 1, none⟩ = some (.slice A' xb.length c') := World.cell?_setCell_same' _ _ _ (by rw [f2]; rfl)
      have hrdV : Rd (w4.setCell ⟨wr.heap.size, 1, none⟩ (.slice A' xb.length c')) (w4.setCell ⟨wr.heap.size, 1, none⟩ (.slice A' xb.length c')).heap.size A' (bytesV xb) := rd_keptP hrd (fun a ha _ => Below.heap_setCell _ _ _ _ (by have := (hfar a ha).1; show a.block ≠ wr.heap.size; omega)) (by simp)
      have hzV : w4.heap.size = (w4.setCell ⟨wr.heap.size, 1, none⟩ (.slice A' xb.length c')).heap.size := by simp
      generalize w4.setCell ⟨wr.heap.size, 1, none⟩ (.slice A' xb.length c') = V at *
      have hV2 : Below wr.heap.size wr (V.alloc (.cells #[.int .i64 xk, .slice A' xb.length c'] 68)) := hbV.alloc (by omega) _
      have hbL := Lib.hid (hb.trans (hV2.mono hz))
      have hIV := Lib.hid (hI.kept (fun k _ hk => hV2.block k hk) hV2.size)
      have hrd2 := Lib.hid ((hrdV.below (below_alloc' V (.cells #[.int .i64 xk, .slice A' xb.length c'] 68))).more (below_alloc' V (.cells #[.int .i64 xk, .slice A' xb.length c'] 68)).size)
      have hsz2 : (V.alloc (.cells #[.int .i64 xk, .slice A' xb.length c'] 68)).heap.size = V.heap.size + 1 := by simp
      go_wp2_with (at_builtin; go_must (refine wpList_ownK (k := atK) (x := ⟨xk, A', c', xb⟩) rfl (.tmp 16) (.tmp 18) 33 rfl SAt rfl hIV.out (by omega) rfl (Rd.of_blk (g := V.heap.size) (blk_new _ _ rfl) (Nat.lt_succ_self _)) rfl (by intro u hu; simp [atK, At.cells] at hu; rcases hu with rfl | rfl <;> rfl) ⟨hrd2.out, hcl, hcm⟩ (fun a ha => ⟨by have := (hfar a ha).1; omega, by have := (hfar a ha).2; omega, fun e => by have := (hfar a ha).1; have := (hoW _ e.symm).2; omega⟩) (by unfold maxLen; omega) (by omega) ?_); intro v2 w5 hO5 hg5 hat5)
      go_roundw
      case rel =>
        refine ⟨j + 1, o ++ [⟨xk, A', c', xb⟩], by go_num, by omega, by show _ = _; rw [hst.out, List.map_append, ho.out]; rfl, hO5, ?_, ?_⟩
        · intro y hy
          rcases List.mem_append.1 hy with h | h
          · exact hbd.out y h
          · have : y = ⟨xk, A', c', xb⟩ := by simpa using h
            subst this
            exact b3.2
        · exact hbL.out.grown hg5 (by omega) (fun k hk => (hI.lt hk).1)
      case measure => simp [Go.RowKit.intOf]; omega
/-- What own hands back, as attributes that lie in blocks of the call's own. -/
structure OwnA (s : List KV) (w : World) (A : Option Addr) (c : Nat) (l : List At) (w' : World) : Prop where
  kv : l.map At.kv = s
  ats : AtsP (fun k => w.heap.size ≤ k ∧ k < w'.heap.size) w' A l
  len : l.length ≤ c
  cap : c ≤ maxLen
  bel : Below w.heap.size w w'
theorem store_ownA (A : Option Addr) (l : List At) (c : Nat) (w : World) (h : Ats w w.heap.size A l) (hl : l.length ≤ 4398046511104) :
    Calls Try.prog 13 #[.slice A l.length c] w fun e w' => ∃ A' c' l', e = .returned (.slice A' l'.length c') ∧ OwnA (l.map At.kv) w A' c' l' w' := by
  refine (store_own A l c w h hl).mono ?_
  rintro e w' ⟨v, l', rfl, hK, hkv, hbd, hb⟩
  obtain ⟨A', c', rfl, h1, h2⟩ := hK.form
  refine ⟨A', c', l', rfl, hkv, ⟨⟨hK.rd, fun x hx => ?_⟩, fun a ha => ?_, fun x hx a ha => ?_⟩, h1, h2, hb⟩
  · obtain ⟨r1, r2, r3, r4⟩ := hK.body x hx
    exact ⟨r1, r2, r3, hbd x hx⟩
  · exact hK.lt (by rw [ha]; rfl)
  · obtain ⟨r1, r2, r3, r4⟩ := hK.body x hx
    exact ⟨(r4 a ha).1, (r4 a ha).2.1⟩
end Go.Proofs.Ytakooljbkjnilaa
