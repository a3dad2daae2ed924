/- attr.Unpack, and the document's UnpackedAttrs. -/
import Derived.Test.YtdlmamnnamlleaaPk2
namespace Go.Proofs.Ytdlmamnnamlleaa
open Go.ChangeShapes Go.WideShapes Go.ChangeAt Go.RowKit
set_option maxHeartbeats 1000000
set_option maxRecDepth 100000
attribute [local go_sem] kp_refl kp_alloc kp_setCell kp_drew kp_drewN row_new row_old rowAt_new rowAt_old

theorem firstS_body (b : List UInt8) : (firstS b).1.2.length ≤ 4096 := by
  cases b with
  | nil => simp [firstS, noneIt]
  | cons t r =>
    simp only [firstS]
    split
    · simp [noneIt]
    split
    · simp [noneIt]
    split
    · simp [noneIt]
    · simp; omega
theorem readL_ok : ∀ (f : Nat) (b : List UInt8) (acc : List (UInt8 × List UInt8)), acc.length ≤ 200 → (∀ p ∈ acc, p.2.length ≤ 4096) → (readL f b acc).1.length ≤ 200 ∧ ∀ p ∈ (readL f b acc).1, p.2.length ≤ 4096 := by
  intro f
  induction f with
  | zero =>
    intro b acc h1 h2
    cases b with
    | nil => exact ⟨h1, h2⟩
    | cons x r => simp [readL]
  | succ f ih =>
    intro b acc h1 h2
    cases b with
    | nil => exact ⟨h1, h2⟩
    | cons x r =>
      unfold readL
      split
      · simp
      split
      · simp
      · refine ih _ _ (by simp; omega) fun p hp => ?_
        rcases List.mem_append.1 hp with h | h
        · exact h2 p h
        · have : p = (firstS (x :: r)).1 := by simpa using h
          rw [this]; exact firstS_body _
theorem readS_ok (b : List UInt8) : (readS b).1.length ≤ 200 ∧ ∀ p ∈ (readS b).1, p.2.length ≤ 4096 := by
  unfold readS
  split
  · simp
  · exact readL_ok _ _ _ (by simp) (fun p hp => by simp at hp)
/-- An item as an attribute. -/
def It.at_ (x : It) : At := ⟨(x.tag.toNat : Int), x.A, x.cap, x.body⟩
def pairKV (p : UInt8 × List UInt8) : KV := ((p.1.toNat : Int), p.2)
theorem at_kv (l : List It) : (l.map It.at_).map At.kv = (l.map It.pair).map pairKV := by simp [It.at_, At.kv, It.pair, pairKV, Function.comp_def]
def unpK1 (k : List KV) : List KV × Int := if fault k ≠ 0 then ([], fault k) else if k = (cardOf k).attrs then (k, 0) else ([], 1)
def unpK (b : List UInt8) : List KV × Int := if (readS b).2 ≠ 0 then ([], (readS b).2) else unpK1 ((readS b).1.map pairKV)
theorem unpErr_of {x : List KV × Int} {w w' : World} {z : Int} (h : x = ([], z)) (hb : Below w.heap.size w w') : AtsErr x.1 x.2 w (.returned (.tuple #[.slice none 0 0, .int .i64 z])) w' := by
  rw [h]; exact ⟨_, rfl, AtsR.nil hb⟩
/-- Rising kinds. -/
theorem rise_pair : ∀ (s : List KV), (∀ i (h : i + 1 < s.length), (s[i]'(by omega)).1 < (s[i + 1]'h).1) → s.Pairwise fun a b => a.1 < b.1 := by
  intro s
  induction s with
  | nil => intro _; exact List.Pairwise.nil
  | cons x r ih =>
    intro h
    have hr := ih fun i hi => by
      have := h (i + 1) (by simp; omega)
      simpa using this
    refine List.pairwise_cons.2 ⟨?_, hr⟩
    cases r with
    | nil => intro y hy; simp at hy
    | cons y r =>
      have h0 := h 0 (by simp)
      simp at h0
      intro z hz
      rcases List.mem_cons.1 hz with rfl | hz
      · exact h0
      · have := (List.pairwise_cons.1 hr).1 z hz
        omega
theorem rise_all {s : List KV} (hg : Good s) (h : ∀ i (_ : 1 ≤ i) (h : i < s.length), (s[i - 1]'(by omega)).1 < (s[i]'h).1) : s = (cardOf s).attrs := by
  have hp := rise_pair s fun i hi => by
    have := h (i + 1) (by omega) hi
    simpa using this
  exact sorted_eq hg (List.Perm.refl _) (hp.imp fun h => by omega)
/-- Rising so far. -/
def riseTo (k : List KV) (i : Nat) : Prop := ∀ j (_ : 1 ≤ j) (_ : j < i) (h : j < k.length), (k[j - 1]'(by omega)).1 < (k[j]'h).1
theorem rise_not {s : List KV} {i : Nat} (h1 : 1 ≤ i) (hi : i < s.length) (h : (s[i]'hi).1 ≤ (s[i - 1]'(by omega)).1) : s ≠ (cardOf s).attrs := fun e => by
  have hl := attrs_lt (cardOf s)
  rw [← e] at hl
  have := List.pairwise_iff_getElem.1 hl (i - 1) i (by omega) hi (by omega)
  omega
set_option maxHeartbeats 8000000 in
theorem attr_Unpack (A0 : Option Addr) (b : List UInt8) (c0 : Nat) (w : World) (h : Rd w w.heap.size A0 (bytesV b)) (hn : b.length ≤ c0) (hc : c0 ≤ maxLen) :
    Calls Try.prog 47 #[.slice A0 b.length c0] w (AtsErr (unpK b).1 (unpK b).2 w) := by
  have hM : Hid (unpK b = if (readS b).2 ≠ 0 then ([], (readS b).2) else unpK1 ((readS b).1.map pairKV)) := rfl
  have hfin := Lib.hid (fun (z : Int) (w' : World) (h : unpK b = ([], z)) (hb : Below w.heap.size w w') => unpErr_of h hb)
  have hrd := Lib.hid (der_Read A0 b c0 w h hn hc)
  unfold Rds at hrd
  go_enter Try.func47, Try.ntmps47
  go_wp2_with fail
  refine hrd.out.mono ?_
  rintro e w1 ⟨A, l, c, rfl, hI, hpair, hln, hb1⟩
  clear hrd
  have hrk := readS_ok b
  have hl200 : l.length ≤ 200 := by have := congrArg List.length hpair; simp at this; omega
  have hbd : Hid (∀ x ∈ l, x.body.length ≤ 4096) := fun x hx => hrk.2 _ (by rw [← hpair]; exact List.mem_map.2 ⟨x, hx, rfl⟩)
  clear hrk hln
  generalize hZ : (readS b).2 = Z at *
  by_cases hz0 : Z = 0
  · subst hz0
    have hM1 : Hid (unpK b = unpK1 ((readS b).1.map pairKV)) := by show _ = _; rw [hM.out, if_neg (by simp)]
    clear hM hZ
    go_wp2
    go_loopw [6, 21] (fun v x wr => ∃ j : Nat, x = .int .i64 j ∧ j ≤ l.length ∧ wr.ownsRow w1.heap.size 120 2 v j (((l.take j).map It.at_).flatMap At.cells) ∧ Below w1.heap.size w1 wr ∧ w1.heap.size ≤ wr.heap.size) (fun _ x _ => l.length - (intOf x).toNat)
    case atStart => exact ⟨0, rfl, by omega, World.ownsRow_nil _ _ _ _, Below.refl _ _, Nat.le_refl _⟩
    case round =>
      obtain ⟨j, rfl, hj, hO, hb, hz⟩ := hrel
      have hL := below_step hb hb1 (Nat.le_refl _)
      have hA := (hI.kp (kp_of_below hb)).more hz
      obtain ⟨A4, c4, hv4⟩ := own_formA hO
      subst hv4
      by_cases hji : j = l.length
      · subst hji
        have hc4 : l.length ≤ c4 ∧ c4 ≤ 9223372036854775807 := by
          rcases hO.2 with ⟨e, e2⟩ | ⟨g, cap, cur, e, _, _, e2, e3, _⟩
          · injection e with e3 e4 e5
            subst e5; omega
          · injection e with e4 e5 e6
            subst e6
            unfold maxLen at e3
            exact ⟨e2, e3⟩
        rw [List.take_of_length_le (Nat.le_refl _)] at hO
        have hAt : Ats wr wr.heap.size A4 (l.map It.at_) := ⟨Rd.of_own hO, fun y hy => by
          obtain ⟨x, hx, rfl⟩ := List.mem_map.1 hy
          obtain ⟨r1, r2, r3⟩ := hA.body x hx
          have h4 := hbd.out x hx
          exact ⟨r1, r2, by unfold maxLen at r3; exact r3, by show x.body.length ≤ _; omega⟩⟩
        have hkv : Hid ((l.map It.at_).map At.kv = (readS b).1.map pairKV) := by show _ = _; rw [at_kv, hpair]
        have hlen : (l.map It.at_).length = l.length := by simp
        clear hO hA hI hbd hb hpair
        generalize l.map It.at_ = o at *
        rw [← hlen] at hc4 ⊢
        have hol : o.length ≤ 200 := by omega
        clear hlen hj
        go_wp2_with fail
        refine (attr_Check A4 o c4 _ hAt (by omega)).mono ?_
        rintro e w2 ⟨rfl, hb2⟩
        have h2 := hAt.step hb2
        have hL2 := below_step hb2 hL (Nat.le_refl _)
        rw [hkv.out]
        generalize hK : (readS b).1.map pairKV = k at *
        generalize hF : fault k = F at *
        clear hAt hb2 hL
        by_cases hf : F = 0
        · subst hf
          have hg := Lib.hid (good_of hF)
          have hM2 : Hid (unpK b = if k = (cardOf k).attrs then (k, 0) else ([], 1)) := by show _ = _; rw [hM1.out]; unfold unpK1; rw [if_neg (by simp [hF])]
          clear hF hK hM1
          have hkl : k.length = o.length := by rw [← hkv.out]; simp
          have hkg : Hid (∀ i (h : i < o.length), ∃ h2 : i < k.length, (k[i]'h2).1 = o[i].kind) := fun i h => ⟨by omega, by
            have := List.getElem_of_eq hkv.out.symm (show i < k.length by omega)
            rw [this]; simp [At.kv]⟩
          have hkl2 := Lib.hid hkl
          clear hkl
          go_wp2
          go_loopw [10] (fun x wx => ∃ i : Nat, x = .int .i64 i ∧ 1 ≤ i ∧ i ≤ max 1 o.length ∧ Hid (riseTo k i) ∧ Below w2.heap.size w2 wx ∧ w2.heap.size ≤ wx.heap.size) (fun x _ => max 1 o.length - (intOf x).toNat)
          case atStart => exact ⟨1, rfl, by omega, by omega, fun j h1 h2 => absurd h2 (by omega), Below.refl _ _, Nat.le_refl _⟩
          case round =>
            obtain ⟨i, rfl, hi1, hi, hal, hbx, hzx⟩ := hrel
            have hLx := below_step hbx hL2 (Nat.le_refl _)
            have hx := h2.step hbx
            by_cases hil : i < o.length
            · have hil2 : i - 1 < o.length := by omega
              have hyes : Hid ((o[i - 1]'hil2).kind < (o[i]'hil).kind → riseTo k (i + 1)) := fun h5 j j1 j2 j3 => by
                obtain ⟨h3, e3⟩ := hkg.out i hil
                obtain ⟨h4, e4⟩ := hkg.out (i - 1) hil2
                rcases Nat.lt_or_ge j i with h6 | h6
                · exact hal.out j j1 h6 j3
                · obtain rfl : j = i := by omega
                  omega
              have hno : Hid ((o[i]'hil).kind ≤ (o[i - 1]'hil2).kind → unpK b = ([], 1)) := fun h5 => by
                obtain ⟨h3, e3⟩ := hkg.out i hil
                obtain ⟨h4, e4⟩ := hkg.out (i - 1) hil2
                rw [hM2.out, if_neg (rise_not hi1 h3 (by omega))]
              obtain ⟨ad, rfl, hbl, q1, -⟩ := hx.at_ hil
              obtain ⟨ad2, e5, hbl2, q3, -⟩ := hx.at_ hil2
              injection e5 with e5
              subst e5
              clear hal
              have hs1 : IntKind.i64.wrap ((i : Int) - 1) = ((i - 1 : Nat) : Int) := by rw [IntKind.wrap_i64]; omega
              have hs2 : (0 : Int) ≤ ((i - 1 : Nat) : Int) := by omega
              have hs3 : ((i - 1 : Nat) : Int) < (o.length : Int) := by omega
              have hs4 : (i : Int) < (o.length : Int) := by omega
              have hs5 : (0 : Int) ≤ (i : Int) := by omega
              generalize (o[i]'hil).kind = k1 at *
              generalize (o[i - 1]'hil2).kind = k2 at *
              generalize i - 1 = i2 at *
              by_cases hle : k1 ≤ k2
              · have hM3 := Lib.hid (hno.out hle)
                have hd : decide (k1 ≤ k2) = true := by simpa using hle
                clear hno hyes
                go_wp2
                go_region
                go_wp2
                go_ret2
                exact hfin.out _ _ hM3.out (by first | exact hLx | exact below_dNA hLx _)
              · have hal2 := Lib.hid (hyes.out (by omega))
                have hd : decide (k1 ≤ k2) = false := by simpa using hle
                clear hno hyes
                go_wp2
                go_region
                go_wp2
                go_roundw
                case rel => exact ⟨i + 1, by go_num, by omega, by omega, hal2.out, by first | exact hbx | exact below_dNA hbx _, by first | exact hzx | (simp; omega)⟩
                case measure => simp [intOf]; omega
            · have hM3 : Hid (unpK b = (k, 0)) := by show _ = _; rw [hM2.out, if_pos (rise_all hg.out fun j j1 j2 => hal.out j j1 (by have := hkl2.out; omega) j2)]
              clear hal
              have hd : decide ((i : Int) < (o.length : Int)) = false := by simp; omega
              go_wp2
              go_ret2
              rw [hM3.out]
              exact ⟨_, rfl, A4, o, c4, rfl, hc4, hkv.out, hx, hLx⟩
        · have hM2 : Hid (unpK b = ([], F)) := by show _ = _; rw [hM1.out]; unfold unpK1; rw [hF, if_pos hf]
          have hb0 : (F == 0) = false := by simpa using hf
          have hb1' : (F != 0) = true := by simpa using hf
          clear hf hF hM1
          go_wp2
          go_ret2
          exact hfin.out _ _ hM2.out hL2
      · have hjl : j < l.length := by omega
        obtain ⟨ad, rfl, hbl, q1, q2⟩ := hA.at_ hjl
        have hst : Hid ((((l.take (j + 1)).map It.at_).flatMap At.cells) = (((l.take j).map It.at_).flatMap At.cells) ++ [.int .i64 (l[j].tag.toNat : Int), .slice l[j].A l[j].body.length l[j].cap]) := by
          show _ = _
          rw [List.take_succ_eq_append_getElem hjl]
          simp only [List.map_append, List.flatMap_append, List.map_cons, List.map_nil, List.flatMap_cons, List.flatMap_nil, List.append_nil]
          rfl
        generalize l[j] = x at *
        obtain ⟨xt, xA, xc, xb⟩ := x
        simp only at q1 q2 hst
        have hxt := xt.toNat_lt
        unfold u8v at q1
        generalize xt.toNat = n at *
        have hcnv : IntKind.i64.wrap (n : Int) = (n : Int) := by rw [IntKind.wrap_i64]; omega
        have hbW : Below wr.heap.size wr (wr.alloc (.cells #[.int .u8 (n : Int), .slice xA xb.length xc] 162)) := below_alloc' wr _
        have hOW := Lib.hid (own_belowA hO hbW)
        have hbx := Lib.hid (hb.trans (hbW.mono hz))
        have hbV := below_alloc' (wr.alloc (.cells #[.int .u8 (n : Int), .slice xA xb.length xc] 162)) (.cells #[.int .i64 (n : Int), .slice xA xb.length xc] 120)
        have hOV := Lib.hid (own_belowA hOW.out hbV)
        have hLV := Lib.hid (hbx.out.trans (hbV.mono (by simp; omega)))
        go_wp2_with (at_builtin; go_must (refine wpList_app rfl (.tmp 25) (.tmp 32) 32 rfl SAt rfl hOV.out (m := 1) (news := [.int .i64 (n : Int), .slice xA xb.length xc]) rfl rfl (Rd.of_blk (g := wr.heap.size + 1) (blk_new _ _ (by simp)) (Nat.lt_succ_self _)) (by intro u hu; simp at hu; rcases hu with rfl | rfl <;> rfl) (by unfold maxLen; omega) (by omega) (by simp; omega) ?_); intro v2 w5 hO5 hg5 hat5; clear hat5)
        go_roundw
        case rel =>
          refine ⟨j + 1, by go_num, by omega, by rw [hst.out]; exact hO5, ?_, ?_⟩
          · exact hLV.out.grown hg5 (by simp; omega) (fun k hk => (hOV.out.lt k hk).1)
          · have := hg5.size
            simp at this; omega
        case measure => simp [intOf]; omega
  · have hM1 : Hid (unpK b = ([], Z)) := by show _ = _; rw [hM.out, if_pos hz0]
    have hb0 : (Z == 0) = false := by simpa using hz0
    have hb1' : (Z != 0) = true := by simpa using hz0
    clear hz0 hZ hM
    go_wp2
    go_ret2
    exact hfin.out _ _ hM1.out hb1
set_option maxHeartbeats 8000000 in
theorem ref_UnpackedAttrs (b : List UInt8) (w : World) (hc : b.length ≤ maxLen) :
    Calls Try.prog 48 #[.string ⟨b.toArray⟩] w (AtsErr (unpK b).1 (unpK b).2 w) := by
  have hM : Hid (unpK b = if (readS b).2 ≠ 0 then ([], (readS b).2) else unpK1 ((readS b).1.map pairKV)) := rfl
  have hfin := Lib.hid (fun (z : Int) (w' : World) (h : unpK b = ([], z)) (hb : Below w.heap.size w w') => unpErr_of h hb)
  have hrd := Lib.hid (ref_ReadItems b w hc)
  unfold Rds at hrd
  go_enter Try.func48, Try.ntmps48
  go_wp2_with fail
  refine hrd.out.mono ?_
  rintro e w1 ⟨A, l, c, rfl, hI, hpair, hln, hb1⟩
  clear hrd
  have hrk := readS_ok b
  have hl200 : l.length ≤ 200 := by have := congrArg List.length hpair; simp at this; omega
  have hbd : Hid (∀ x ∈ l, x.body.length ≤ 4096) := fun x hx => hrk.2 _ (by rw [← hpair]; exact List.mem_map.2 ⟨x, hx, rfl⟩)
  clear hrk hln
  generalize hZ : (readS b).2 = Z at *
  by_cases hz0 : Z = 0
  · subst hz0
    have hM1 : Hid (unpK b = unpK1 ((readS b).1.map pairKV)) := by show _ = _; rw [hM.out, if_neg (by simp)]
    clear hM hZ
    go_wp2
    go_loopw [6, 20] (fun v x wr => ∃ j : Nat, x = .int .i64 j ∧ j ≤ l.length ∧ wr.ownsRow w1.heap.size 120 2 v j (((l.take j).map It.at_).flatMap At.cells) ∧ Below w1.heap.size w1 wr ∧ w1.heap.size ≤ wr.heap.size) (fun _ x _ => l.length - (intOf x).toNat)
    case atStart => exact ⟨0, rfl, by omega, World.ownsRow_nil _ _ _ _, Below.refl _ _, Nat.le_refl _⟩
    case round =>
      obtain ⟨j, rfl, hj, hO, hb, hz⟩ := hrel
      have hL := below_step hb hb1 (Nat.le_refl _)
      have hA := (hI.kp (kp_of_below hb)).more hz
      obtain ⟨A4, c4, hv4⟩ := own_formA hO
      subst hv4
      by_cases hji : j = l.length
      · subst hji
        have hc4 : l.length ≤ c4 ∧ c4 ≤ 9223372036854775807 := by
          rcases hO.2 with ⟨e, e2⟩ | ⟨g, cap, cur, e, _, _, e2, e3, _⟩
          · injection e with e3 e4 e5
            subst e5; omega
          · injection e with e4 e5 e6
            subst e6
            unfold maxLen at e3
            exact ⟨e2, e3⟩
        rw [List.take_of_length_le (Nat.le_refl _)] at hO
        have hAt : Ats wr wr.heap.size A4 (l.map It.at_) := ⟨Rd.of_own hO, fun y hy => by
          obtain ⟨x, hx, rfl⟩ := List.mem_map.1 hy
          obtain ⟨r1, r2, r3⟩ := hA.body x hx
          have h4 := hbd.out x hx
          exact ⟨r1, r2, by unfold maxLen at r3; exact r3, by show x.body.length ≤ _; omega⟩⟩
        have hkv : Hid ((l.map It.at_).map At.kv = (readS b).1.map pairKV) := by show _ = _; rw [at_kv, hpair]
        have hlen : (l.map It.at_).length = l.length := by simp
        clear hO hA hI hbd hb hpair
        generalize l.map It.at_ = o at *
        rw [← hlen] at hc4 ⊢
        have hol : o.length ≤ 200 := by omega
        clear hlen hj
        have haf := Lib.hid (ref_AttrsFault A4 o c4 _ hAt (by omega) hc4.1 hc4.2)
        go_wp2_with fail
        refine haf.out.mono ?_
        rintro e w2 ⟨rfl, hb2⟩
        have h2 := hAt.step hb2
        have hL2 := below_step hb2 hL (Nat.le_refl _)
        rw [hkv.out]
        generalize hK : (readS b).1.map pairKV = k at *
        generalize hF : fault k = F at *
        clear hAt hb2 hL haf
        by_cases hf : F = 0
        · subst hf
          have hM2 : Hid (unpK b = if k = (cardOf k).attrs then (k, 0) else ([], 1)) := by show _ = _; rw [hM1.out]; unfold unpK1; rw [if_neg (by simp [hF])]
          have hvl := Lib.hid (fun j (_ : j < 19) => cardOf_v_len o h2 j)
          clear hF hK hM1
          go_wp2_with fail
          refine (ref_CardOf A4 o c4 _ h2 (by omega)).mono ?_
          rintro e w3 ⟨rfl, hb3⟩
          have h3 := h2.step hb3
          have hL3 := below_step hb3 hL2 (Nat.le_refl _)
          rw [hkv.out] at hvl ⊢
          generalize hX : cardOf k = X at *
          have hXc := crd_cells X
          go_wp2_with fail
          refine (ref_Attrs X _ hvl.out).mono ?_
          rintro e w4 ⟨v, rfl, Aw, wt, cw, rfl, hcw, hwe, hAw, hb4⟩
          have h4 := h3.step hb4
          have hL4 := below_step hb4 hL3 (Nat.le_refl _)
          have hsm := Lib.hid (ref_SameAttrs A4 Aw o wt c4 cw w4 h4 hAw (by omega))
          have hsd : Hid (sameKV o wt = decide (k = X.attrs)) := by show _ = _; unfold sameKV; rw [hwe, hkv.out]
          rw [hsd.out] at hsm
          clear hwe hsd
          go_wp2_with fail
          refine hsm.out.mono ?_
          rintro e w5 ⟨rfl, hb5⟩
          have h5 := h4.step hb5
          have hL5 := below_step hb5 hL4 (Nat.le_refl _)
          clear hsm
          by_cases hs : k = X.attrs
          · have hM3 : Hid (unpK b = (k, 0)) := by show _ = _; rw [hM2.out, if_pos hs]
            have ds : decide (k = X.attrs) = true := by simpa using hs
            clear hs hM2
            generalize decide (k = X.attrs) = bs at *
            subst ds
            go_wp2
            go_ret2
            rw [hM3.out]
            exact ⟨_, rfl, A4, o, c4, rfl, hc4, hkv.out, h5, hL5⟩
          · have hM3 : Hid (unpK b = ([], 1)) := by show _ = _; rw [hM2.out, if_neg hs]
            have ds : decide (k = X.attrs) = false := by simpa using hs
            clear hs hM2
            generalize decide (k = X.attrs) = bs at *
            subst ds
            go_wp2
            go_ret2
            exact hfin.out _ _ hM3.out hL5
        · have hM2 : Hid (unpK b = ([], F)) := by show _ = _; rw [hM1.out]; unfold unpK1; rw [hF, if_pos hf]
          have hb0 : (F == 0) = false := by simpa using hf
          have hb1' : (F != 0) = true := by simpa using hf
          clear hf hF hM1
          go_wp2
          go_ret2
          exact hfin.out _ _ hM2.out hL2
      · have hjl : j < l.length := by omega
        obtain ⟨ad, rfl, hbl, q1, q2⟩ := hA.at_ hjl
        have hst : Hid ((((l.take (j + 1)).map It.at_).flatMap At.cells) = (((l.take j).map It.at_).flatMap At.cells) ++ [.int .i64 (l[j].tag.toNat : Int), .slice l[j].A l[j].body.length l[j].cap]) := by
          show _ = _
          rw [List.take_succ_eq_append_getElem hjl]
          simp only [List.map_append, List.flatMap_append, List.map_cons, List.map_nil, List.flatMap_cons, List.flatMap_nil, List.append_nil]
          rfl
        generalize l[j] = x at *
        obtain ⟨xt, xA, xc, xb⟩ := x
        simp only at q1 q2 hst
        have hxt := xt.toNat_lt
        unfold u8v at q1
        generalize xt.toNat = n at *
        have hcnv : IntKind.i64.wrap (n : Int) = (n : Int) := by rw [IntKind.wrap_i64]; omega
        have hbW : Below wr.heap.size wr (wr.alloc (.cells #[.int .u8 (n : Int), .slice xA xb.length xc] 162)) := below_alloc' wr _
        have hOW := Lib.hid (own_belowA hO hbW)
        have hbx := Lib.hid (hb.trans (hbW.mono hz))
        have hbV := below_alloc' (wr.alloc (.cells #[.int .u8 (n : Int), .slice xA xb.length xc] 162)) (.cells #[.int .i64 (n : Int), .slice xA xb.length xc] 120)
        have hOV := Lib.hid (own_belowA hOW.out hbV)
        have hLV := Lib.hid (hbx.out.trans (hbV.mono (by simp; omega)))
        go_wp2_with (at_builtin; go_must (refine wpList_app rfl (.tmp 24) (.tmp 31) 32 rfl SAt rfl hOV.out (m := 1) (news := [.int .i64 (n : Int), .slice xA xb.length xc]) rfl rfl (Rd.of_blk (g := wr.heap.size + 1) (blk_new _ _ (by simp)) (Nat.lt_succ_self _)) (by intro u hu; simp at hu; rcases hu with rfl | rfl <;> rfl) (by unfold maxLen; omega) (by omega) (by simp; omega) ?_); intro v2 w5 hO5 hg5 hat5; clear hat5)
        go_roundw
        case rel =>
          refine ⟨j + 1, by go_num, by omega, by rw [hst.out]; exact hO5, ?_, ?_⟩
          · exact hLV.out.grown hg5 (by simp; omega) (fun k hk => (hOV.out.lt k hk).1)
          · have := hg5.size
            simp at this; omega
        case measure => simp [intOf]; omega
  · have hM1 : Hid (unpK b = ([], Z)) := by show _ = _; rw [hM.out, if_pos hz0]
    have hb0 : (Z == 0) = false := by simpa using hz0
    have hb1' : (Z != 0) = true := by simpa using hz0
    clear hz0 hZ hM
    go_wp2
    go_ret2
    exact hfin.out _ _ hM1.out hb1
end Go.Proofs.Ytdlmamnnamlleaa
