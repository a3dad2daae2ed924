/- attr.Pack, and the document's PackedAttrs. -/
import Derived.Test.YtdlmamnnamlleaaCh1
import Derived.Test.YtdlmamnnamlleaaDerR2
namespace Go.Proofs.Ytdlmamnnamlleaa
open Go.ChangeShapes Go.WideShapes Go.ChangeAt Go.RowKit
set_option maxHeartbeats 1000000
set_option maxRecDepth 100000
attribute [local go_sem] kp_refl kp_alloc kp_setCell kp_drew kp_drewN row_new row_old rowAt_new rowAt_old

/-- An attribute as an item. -/
def At.it (x : At) : It := ⟨UInt8.ofNat x.kind.toNat, x.A, x.cap, x.body⟩
def packK (s : List KV) : List UInt8 := s.flatMap fun x => [UInt8.ofNat x.1.toNat, UInt8.ofNat x.2.length] ++ x.2
theorem fits_len {x : KV} (h : fitsB x = true) : x.2.length ≤ 64 := by
  unfold fitsB at h
  split at h
  · simp at h; omega
  split at h
  · simp at h; omega
  split at h
  · simp at h; omega
  · simp at h; omega
theorem enc_pack : ∀ (l : List At), (∀ x ∈ l, fitsB x.kv = true) → enc (l.map At.it) = packK (l.map At.kv) := by
  intro l
  induction l with
  | nil => intro _; rfl
  | cons x r ih =>
    intro h
    have h1 := fits_len (h x (by simp))
    have h2 := ih fun y hy => h y (by simp [hy])
    unfold enc packK at *
    simp only [List.map_cons, List.flatMap_cons, h2]
    congr 1
    unfold itemHead At.it At.kv
    have h3 : x.body.length < 128 := by have : x.kv.2.length = x.body.length := rfl; omega
    simp only [if_pos h3]
theorem items_ok {l : List At} (hl : l.length ≤ 24) (h : ∀ x ∈ l, fitsB x.kv = true) : itemsOk (l.map At.it) = true := by
  unfold itemsOk bodiesOk
  simp only [List.length_map, Bool.and_eq_true, decide_eq_true_eq, List.all_eq_true]
  refine ⟨by omega, fun y hy => ?_⟩
  obtain ⟨x, hx, rfl⟩ := List.mem_map.1 hy
  have h1 := fits_len (h x hx)
  have : x.kv.2.length = (At.it x).body.length := rfl
  omega
theorem flat_oneI (l : List It) : ∀ u ∈ l.flatMap It.cells, u.oneCell' = true := by
  intro u hu
  obtain ⟨x, -, hx⟩ := List.mem_flatMap.1 hu
  simp [It.cells] at hx
  rcases hx with rfl | rfl <;> rfl
/-- What Pack answers. -/
def packS (l : List KV) : List UInt8 := if fault l = 0 then packK (cardOf l).attrs else []
def PackR (l : List KV) (w : World) (e : Ending) (w' : World) : Prop :=
  ∃ A c, e = .returned (.tuple #[.slice A (packS l).length c, .int .i64 (fault l)]) ∧ Rd w' w'.heap.size A (bytesV (packS l)) ∧ Below w.heap.size w w'
set_option maxHeartbeats 8000000 in
theorem attr_Pack (A : Option Addr) (l : List At) (c : Nat) (w : World) (h : Ats w w.heap.size A l) (hl : l.length ≤ 9223372036854775807) :
    Calls Try.prog 46 #[.slice A l.length c] w (PackR (l.map At.kv) w) := by
  have hN : Hid (normL (l.map At.kv) = if fault (l.map At.kv) = 0 then (cardOf (l.map At.kv)).attrs else []) := rfl
  have hP : Hid (packS (l.map At.kv) = if fault (l.map At.kv) = 0 then packK (cardOf (l.map At.kv)).attrs else []) := rfl
  have hnm := Lib.hid (attr_Norm A l c w h hl)
  go_enter Try.func46, Try.ntmps46
  go_wp2_with fail
  refine hnm.out.mono ?_
  rintro e w1 ⟨v, rfl, Am, o, cm, rfl, hcm, hoe, hAm, hb1⟩
  clear hnm
  generalize hF : fault (l.map At.kv) = F at *
  by_cases hf : F = 0
  · subst hf
    have hg := good_of hF
    have hok : o.map At.kv = (cardOf (l.map At.kv)).attrs := by rw [hoe, hN.out, if_pos rfl]
    have hfo : Hid (∀ x ∈ o, (1 ≤ x.kind ∧ x.kind ≤ 18) ∧ fitsB x.kv = true) := fun x hx => by
      have h1 : x.kv ∈ (cardOf (l.map At.kv)).attrs := by rw [← hok]; exact List.mem_map.2 ⟨x, hx, rfl⟩
      have h2 := (good_mem hg x.kv).1 h1
      exact ⟨hg.kind _ h2, hg.fits _ h2⟩
    have hol : o.length ≤ 24 := by
      have h1 := congrArg List.length hok
      simp at h1
      have := crd_to_len (cardOf (l.map At.kv)) 19
      unfold Crd.attrs at h1; omega
    have hpk : Hid (packS (l.map At.kv) = packK (o.map At.kv)) := by show _ = _; rw [hP.out, if_pos rfl, hok]
    have hFH := Lib.hid hF
    clear hN hP hF hg hok hoe
    go_wp2
    go_loopw [5, 18] (fun v x wr => ∃ j : Nat, x = .int .i64 j ∧ j ≤ o.length ∧ wr.ownsRow w1.heap.size 162 2 v j (((o.take j).map At.it).flatMap It.cells) ∧ Below w1.heap.size w1 wr ∧ w1.heap.size ≤ wr.heap.size) (fun _ x _ => o.length - (intOf x).toNat)
    case atStart => exact ⟨0, rfl, by omega, World.ownsRow_nil _ _ _ _, Below.refl _ _, Nat.le_refl _⟩
    case round =>
      obtain ⟨j, rfl, hj, hO, hb, hz⟩ := hrel
      have hL := below_step hb hb1 (Nat.le_refl _)
      have hA := hAm.step hb
      obtain ⟨A4, c4, hv4⟩ := own_formA hO
      subst hv4
      by_cases hji : j = o.length
      · subst hji
        rw [List.take_of_length_le (Nat.le_refl _)] at hO
        have hIt : Its wr wr.heap.size A4 (o.map At.it) := ⟨by have := Rd.of_own hO; exact this, fun y hy => by
          obtain ⟨x, hx, rfl⟩ := List.mem_map.1 hy
          obtain ⟨r1, r2, r3⟩ := hA.body x hx
          exact ⟨r1, r2, by unfold maxLen; exact r3.1⟩⟩
        have hwr := Lib.hid (der_Write A4 (o.map At.it) c4 wr hIt (by simp; unfold maxLen; omega))
        have hik := items_ok hol (fun x hx => (hfo.out x hx).2)
        have hek := enc_pack o (fun x hx => (hfo.out x hx).2)
        unfold Wr itemsErr at hwr
        rw [hik, List.length_map, if_pos rfl, if_pos rfl, hek, ← hpk.out] at hwr
        clear hO hIt hA hb hik hek
        go_wp2_with fail
        refine hwr.out.mono ?_
        rintro e w2 ⟨Aw, m, cw, rfl, hR, rfl, hb2⟩
        have hL2 := below_step hb2 hL (Nat.le_refl _)
        go_wp2
        go_ret2
        exact ⟨Aw, cw, by rw [hFH.out]; rfl, hR, hL2⟩
      · have hjl : j < o.length := by omega
        obtain ⟨ad, rfl, hbl, q1, q2⟩ := hA.at_ hjl
        have hst : Hid ((((o.take (j + 1)).map At.it).flatMap It.cells) = (((o.take j).map At.it).flatMap It.cells) ++ [.int .u8 ((UInt8.ofNat o[j].kind.toNat).toNat : Int), .slice o[j].A o[j].body.length o[j].cap]) := by
          show _ = _
          rw [List.take_succ_eq_append_getElem hjl]
          simp only [List.map_append, List.flatMap_append, List.map_cons, List.map_nil, List.flatMap_cons, List.flatMap_nil, List.append_nil]
          rfl
        have hkd := (hfo.out _ (List.getElem_mem hjl)).1
        generalize o[j] = x at *
        obtain ⟨xk, xA, xc, xb⟩ := x
        simp only at q1 q2 hst hkd
        obtain ⟨n, rfl⟩ : ∃ n : Nat, xk = (n : Int) := ⟨xk.toNat, by omega⟩
        have hn256 : n < 256 := by omega
        have hcnv : IntKind.u8.wrap (n : Int) = (n : Int) := by rw [IntKind.wrap_u8]; omega
        have htg : Hid (((UInt8.ofNat (n : Int).toNat).toNat : Int) = (n : Int)) := by show _ = _; simp; omega
        rw [htg.out] at hst
        have hbW : Below wr.heap.size wr (wr.alloc (.cells #[.int .i64 (n : Int), .slice xA xb.length xc] 120)) := below_alloc' wr _
        have hOW := Lib.hid (own_belowA hO hbW)
        have hbx := Lib.hid (hb.trans (hbW.mono hz))
        have hbV := below_alloc' (wr.alloc (.cells #[.int .i64 (n : Int), .slice xA xb.length xc] 120)) (.cells #[.int .u8 (n : Int), .slice xA xb.length xc] 162)
        have hOV := Lib.hid (own_belowA hOW.out hbV)
        have hLV := Lib.hid (hbx.out.trans (hbV.mono (by simp; omega)))
        go_wp2_with (at_builtin; go_must (refine wpList_app rfl (.tmp 22) (.tmp 29) 160 rfl SIt rfl hOV.out (m := 1) (news := [.int .u8 (n : Int), .slice xA xb.length xc]) rfl rfl (Rd.of_blk (g := wr.heap.size + 1) (blk_new _ _ (by simp)) (Nat.lt_succ_self _)) (by intro u hu; simp at hu; rcases hu with rfl | rfl <;> rfl) (by unfold maxLen; omega) (by omega) (by simp; omega) ?_); intro v2 w5 hO5 hg5 hat5; clear hat5)
        go_roundw
        case rel =>
          refine ⟨j + 1, by go_num, by omega, by rw [hst.out]; exact hO5, ?_, ?_⟩
          · exact hLV.out.grown hg5 (by simp; omega) (fun k hk => (hOV.out.lt k hk).1)
          · have := hg5.size
            simp at this; omega
        case measure => simp [intOf]; omega
  · have hP2 : Hid (packS (l.map At.kv) = []) := by show _ = _; rw [hP.out, if_neg hf]
    have hFH := Lib.hid hF
    have hb0 : (F == 0) = false := by simpa using hf
    have hb1' : (F != 0) = true := by simpa using hf
    clear hf hF hP hN hoe
    go_wp2
    go_ret2
    exact ⟨none, 0, by rw [hP2.out, hFH.out]; rfl, by rw [hP2.out]; exact Rd.nil, hb1⟩
end Go.Proofs.Ytdlmamnnamlleaa
