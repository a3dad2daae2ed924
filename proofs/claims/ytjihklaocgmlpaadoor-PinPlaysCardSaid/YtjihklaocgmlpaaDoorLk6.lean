/- Contracts of a lock: Reset, Change, New. -/
import Derived.Test.YtjihklaocgmlpaaDoorLk5
namespace Go.Proofs.YtjihklaocgmlpaaDoor
open Go.ChangeShapes Go.WideShapes Go.ChangeAt Go.RowKit
set_option maxHeartbeats 1000000
set_option maxRecDepth 100000
def z32 : List UInt8 := List.replicate 32 0
theorem zeroPin (A : Option Addr) (m c : Nat) : #[Value.slice A m c, Value.int IntKind.u8 0, Value.int IntKind.u8 0, Value.int IntKind.u8 0, Value.int IntKind.u8 0, Value.int IntKind.u8 0, Value.int IntKind.u8 0, Value.int IntKind.u8 0, Value.int IntKind.u8 0, Value.int IntKind.u8 0, Value.int IntKind.u8 0, Value.int IntKind.u8 0, Value.int IntKind.u8 0, Value.int IntKind.u8 0, Value.int IntKind.u8 0, Value.int IntKind.u8 0, Value.int IntKind.u8 0, Value.int IntKind.u8 0, Value.int IntKind.u8 0, Value.int IntKind.u8 0, Value.int IntKind.u8 0, Value.int IntKind.u8 0, Value.int IntKind.u8 0, Value.int IntKind.u8 0, Value.int IntKind.u8 0, Value.int IntKind.u8 0, Value.int IntKind.u8 0, Value.int IntKind.u8 0, Value.int IntKind.u8 0, Value.int IntKind.u8 0, Value.int IntKind.u8 0, Value.int IntKind.u8 0, Value.int IntKind.u8 0, Value.int IntKind.i64 0] = lockA (.slice A m c) z32 0 := by kernel_rfl
theorem lockA_set0 (v u : Value) (d : List UInt8) (n : Int) : (lockA v d n).setIfInBounds 0 u = lockA u d n := by
  unfold lockA
  rw [arrV_set]
  refine arrV_congr fun i hi => ?_
  by_cases h : i = 0
  · rw [if_pos h, if_pos h]
  · rw [if_neg h, if_neg h, if_neg h]
theorem lockA_ne (v : Value) (d : List UInt8) (n : Int) : (lockA v d n = #[]) = False := eq_false fun e => by
  have := congrArg Array.size e
  rw [show (lockA v d n).size = 34 from arrV_size _ _] at this
  cases this
attribute [local irreducible] arrV dgA sha lkA lockA
attribute [local go_sem ↓] load_lk store_lk load_lkp store_lkp load_o32 store_o32
attribute [local go_sem] isHead_mk isPart_mk offOf_mk blkOf_mk isAgg_mk cellsV_mk row_drew rowAt_drew row_new_cells row_old rowAt_new rowAt_old zeroD zeroLk zeroPin lockA_set0 lockA_ne zero_lk lockA_lk lockA_put fold_pin lkA_size
theorem lk_Reset_no (g : Nat) (B : Option Addr) (m cp : Nat) (w : World) (hm : rightB m = false) :
    Calls Tryd.prog 30 #[.pointer (some ⟨g, 0, none⟩), .slice B m cp] w fun e w' => e = .returned (.int .i64 1) ∧ w = w' := by
  go_enter Tryd.func30, Tryd.ntmps30
  go_wp2_with fail
  refine (pin_right B m cp w).mono ?_
  rintro e w1 ⟨rfl, rfl⟩
  rw [hm]
  go_wp2
  go_ret
  exact ⟨rfl, rfl⟩
theorem lk_Reset (K : Nat → W32) (w0 : World) (g : Nat) (A : Option Addr) (c : Nat) (salt d : List UInt8) (n : Int) (B : Option Addr) (p : List UInt8) (m cp : Nat) (w : World) (h : LkAt w0 g A c salt d n w) (hT : Tabs K w) (hp : Bs w B p cp) (hm : p.length = m) (hr : rightB m = true) :
    Calls Tryd.prog 30 #[.pointer (some ⟨g, 0, none⟩), .slice B m cp] w fun e w' => e = .returned (.int .i64 0) ∧ LkAt w0 g A c salt (stretchL K salt p) 3 w' ∧ Kb g w w' := by
  have hxl := stretchL_len K salt p
  have hcx := dgA_cells (stretchL K salt p)
  have hcl := lkA_cells (stretchL K salt p) 3
  have cc0 := h.cell0
  have hC1 := Lib.hid (pin_Stretch K A salt salt.length c B p m cp w hT h.salt hp rfl hm)
  have hlk := Lib.hid h
  obtain ⟨sn, hsn⟩ : ∃ sn, salt.length = sn := ⟨_, rfl⟩
  rw [hsn] at cc0 hC1
  have hHs := Lib.hid hsn
  obtain ⟨x, hx⟩ : ∃ x, stretchL K salt p = x := ⟨_, rfl⟩
  rw [hx] at hxl hcx hcl hC1 ⊢
  clear h hT hp hm hsn hx
  go_enter Tryd.func30, Tryd.ntmps30
  go_wp2_with fail
  refine (pin_right B m cp w).mono ?_
  rintro e w1 ⟨rfl, rfl⟩
  rw [hr]
  go_wp2_with fail
  refine (hC1.out).mono ?_
  rintro e w1 ⟨rfl, hb1⟩
  have hl1 := hlk.out.step hb1
  have r1 := hl1.row
  have r2 := hl1.eq
  have hfin := Lib.hid (hl1.put x 3 hxl)
  have hfin2 := Lib.hid ((Kb.of (g := g) hb1).setRow (lockA (.slice A salt.length c) x 3))
  rw [hHs.out] at r2 hfin hfin2
  clear hlk hC1 cc0 hl1 hb1
  go_wp2_with (refine wpList_bld2 (vx := .agg (dgA x)) (vy := .int .i64 3) rfl rfl rfl rfl (build_lk x 3 _) ?_)
  go_ret
  exact ⟨rfl, hfin.out, hfin2.out⟩
/-- What a try answers, and how many are left. -/
def tryC (K : Nat → W32) (salt d p : List UInt8) (n : Int) : Int × Int := if n = 0 then (11, 0) else if stretchL K salt p = d then (0, 3) else (10, n - 1)
theorem lk_TryA (K : Nat → W32) (w0 : World) (g : Nat) (A : Option Addr) (c : Nat) (salt d : List UInt8) (n : Int) (B : Option Addr) (p : List UInt8) (m e0 : Nat) (w : World) (h : LkAt w0 g A c salt d n w) (hT : Tabs K w0) (hp : Bs w0 B p e0) (hm : p.length = m) (h0 : 0 ≤ n) (h3 : n ≤ 3) :
    Calls Tryd.prog 25 #[.pointer (some ⟨g, 0, none⟩), .slice B m e0] w fun e w' => e = .returned (.int .i64 (tryC K salt d p n).1) ∧ LkAt w0 g A c salt d (tryC K salt d p n).2 w' ∧ Kb g w w' := by
  unfold tryC
  by_cases hn : n = 0
  · subst hn
    rw [if_pos rfl]
    refine (lk_Try0 w0 g A c salt d B m e0 w h).mono ?_
    rintro e w' ⟨rfl, rfl⟩
    exact ⟨rfl, h, Kb.refl _ _⟩
  · rw [if_neg hn]
    refine (lk_Try K w0 g A c salt d n B p m e0 w h (hT.step h.bel) (hp.step h.bel) hm (by omega) h3).mono ?_
    rintro e w' ⟨rfl, h', hk'⟩
    by_cases hx : stretchL K salt p = d
    · rw [if_pos hx] at h' ⊢
      rw [if_pos hx]
      exact ⟨rfl, h', hk'⟩
    · rw [if_neg hx] at h' ⊢
      rw [if_neg hx]
      exact ⟨rfl, h', hk'⟩
theorem tryC_left (K : Nat → W32) (salt d p : List UInt8) (n : Int) (h0 : 0 ≤ n) (h3 : n ≤ 3) : 0 ≤ (tryC K salt d p n).2 ∧ (tryC K salt d p n).2 ≤ 3 := by
  unfold tryC
  split
  · simp
  · split
    · simp
    · simp; omega
theorem lk_Change_no (g : Nat) (B : Option Addr) (m cp : Nat) (C : Option Addr) (k cq : Nat) (w : World) (hk : rightB k = false) :
    Calls Tryd.prog 29 #[.pointer (some ⟨g, 0, none⟩), .slice B m cp, .slice C k cq] w fun e w' => e = .returned (.int .i64 1) ∧ w = w' := by
  go_enter Tryd.func29, Tryd.ntmps29
  go_wp2_with fail
  refine (pin_right C k cq w).mono ?_
  rintro e w1 ⟨rfl, rfl⟩
  rw [hk]
  go_wp2
  go_ret
  exact ⟨rfl, rfl⟩
/-- A change of the PIN: where the try answers other than 0, that is the answer. -/
theorem lk_Change (K : Nat → W32) (w0 : World) (g : Nat) (A : Option Addr) (c : Nat) (salt d : List UInt8) (n : Int) (B : Option Addr) (p : List UInt8) (m cp : Nat) (C : Option Addr) (q : List UInt8) (k cq : Nat) (w : World) (h : LkAt w0 g A c salt d n w) (hT : Tabs K w0) (hp : Bs w0 B p cp) (hq : Bs w0 C q cq) (hm : p.length = m) (hqk : q.length = k) (hk : rightB k = true) (h0 : 0 ≤ n) (h3 : n ≤ 3) :
    Calls Tryd.prog 29 #[.pointer (some ⟨g, 0, none⟩), .slice B m cp, .slice C k cq] w fun e w' => e = .returned (.int .i64 (tryC K salt d p n).1) ∧
      LkAt w0 g A c salt (if (tryC K salt d p n).1 = 0 then stretchL K salt q else d) (if (tryC K salt d p n).1 = 0 then 3 else (tryC K salt d p n).2) w' ∧ Kb g w w' := by
  have hTry := Lib.hid (lk_TryA K w0 g A c salt d n B p m cp w h hT hp hm h0 h3)
  have hRs := Lib.hid (fun d n V (hV : LkAt w0 g A c salt d n V) => lk_Reset K w0 g A c salt d n C q k cq V hV (hT.step hV.bel) (hq.step hV.bel) hqk hk)
  generalize stretchL K salt q = x at *
  obtain ⟨code, hcode⟩ : ∃ code, (tryC K salt d p n).1 = code := ⟨_, rfl⟩
  obtain ⟨n1, hn1⟩ : ∃ n1, (tryC K salt d p n).2 = n1 := ⟨_, rfl⟩
  rw [hcode, hn1] at hTry ⊢
  obtain ⟨d2, hd2⟩ : ∃ d2, (if code = 0 then x else d) = d2 := ⟨_, rfl⟩
  obtain ⟨n2, hn2⟩ : ∃ n2, (if code = 0 then (3 : Int) else n1) = n2 := ⟨_, rfl⟩
  rw [hd2, hn2]
  have hHd := Lib.hid hd2
  have hHn := Lib.hid hn2
  clear h hT hp hq hm hqk hcode hn1 hd2 hn2
  go_enter Tryd.func29, Tryd.ntmps29
  go_wp2_with fail
  refine (pin_right C k cq w).mono ?_
  rintro e w1 ⟨rfl, rfl⟩
  rw [hk]
  go_wp2_with fail
  refine (hTry.out).mono ?_
  rintro e w1 ⟨rfl, hl1, hk1⟩
  have hL1 := Lib.hid hl1
  have hK1 := Lib.hid hk1
  clear hl1 hTry hk1
  by_cases hc : code = 0
  · subst hc
    rw [if_pos rfl] at hHd hHn
    obtain rfl := hHd.out
    obtain rfl := hHn.out
    go_wp2_with fail
    refine (hRs.out _ _ w1 hL1.out).mono ?_
    rintro e w2 ⟨rfl, hl2, hk2⟩
    have hL2 := Lib.hid hl2
    have hK2 := Lib.hid (hK1.out.trans hk2)
    clear hl2 hk2
    go_wp2
    go_ret
    exact ⟨rfl, hL2.out, hK2.out⟩
  · have hb : (code != 0) = true := by simpa using hc
    rw [if_neg hc] at hHd hHn
    obtain rfl := hHd.out
    obtain rfl := hHn.out
    go_wp2
    go_ret
    exact ⟨rfl, hL1.out, hK1.out⟩
theorem pin_New (K : Nat → W32) (A : Option Addr) (salt : List UInt8) (n c : Nat) (B : Option Addr) (p : List UInt8) (m cp : Nat) (w : World) (hT : Tabs K w) (hs : Bs w A salt c) (hp : Bs w B p cp) (hn : salt.length = n) (hm : p.length = m) (hmx : n ≤ 140737488351232) :
    Calls Tryd.prog 27 #[.slice A n c, .slice B m cp] w fun e w' => Below w.heap.size w w' ∧
      ((rightB m = false ∧ e = .returned (.tuple #[.pointer none, .int .i64 1])) ∨ (rightB m = true ∧ ∃ g A' c', e = .returned (.tuple #[.pointer (some ⟨g, 0, none⟩), .int .i64 0]) ∧ LkAt w g A' c' salt (stretchL K salt p) 3 w' ∧ ∀ a, A' = some a → a.block < w'.heap.size)) := by
  have hC1 := Lib.hid (clone_bytes A salt n c w hs hn hmx)
  have hHT := Lib.hid hT
  have hHp := Lib.hid hp
  have hHn := Lib.hid hn
  have hHm := Lib.hid hm
  clear hT hs hp hn hm
  obtain ⟨x, hx⟩ : ∃ x, stretchL K salt p = x := ⟨_, rfl⟩
  have hHx := Lib.hid hx
  rw [hx]
  clear hx
  go_enter Tryd.func27, Tryd.ntmps27
  go_wp2_with fail
  refine (hC1.out).mono ?_
  rintro e w5 ⟨A5, c5, rfl, hB5, hb5, ha5⟩
  have ha := below_alloc w5 (Obj.cells (lockA (.slice A5 n c5) z32 0) 72)
  have hLk : LkAt w w5.heap.size A5 c5 salt z32 0 (w5.alloc (Obj.cells (lockA (.slice A5 n c5) z32 0) 72)) :=
    ⟨(row_new rfl).2 (lockA_cells rfl z32 0).1, by rw [hHn.out]; exact rowAt_new rfl, hB5.step ha, fun a e => Nat.ne_of_lt (ha5 a e), below_step ha hb5 (Nat.le_refl _), hb5.size, rfl⟩
  have hL := Lib.hid hLk
  have hHa := Lib.hid (show ∀ a, A5 = some a → a.block < (w5.alloc (Obj.cells (lockA (.slice A5 n c5) z32 0) 72)).heap.size from fun a e => Nat.lt_of_lt_of_le (ha5 a e) ha.size)
  clear hB5 ha5 ha hLk hb5 hC1
  go_wp2_with fail
  generalize w5.alloc (Obj.cells (lockA (.slice A5 n c5) z32 0) 72) = W1 at *
  generalize w5.heap.size = g at *
  cases hr : rightB m with
  | false =>
    have hHr := Lib.hid hr
    clear hr
    refine (lk_Reset_no g B m cp W1 hHr.out).mono ?_
    rintro e w6 ⟨rfl, rfl⟩
    go_wp2
    go_ret2
    exact ⟨hL.out.bel, .inl ⟨hHr.out, rfl⟩⟩
  | true =>
    have hHr := Lib.hid hr
    clear hr
    refine (lk_Reset K w g A5 c5 salt z32 0 B p m cp W1 hL.out (hHT.out.step hL.out.bel) (hHp.out.step hL.out.bel) hHm.out hHr.out).mono ?_
    rintro e w6 ⟨rfl, hl6, hk6⟩
    rw [hHx.out] at hl6
    have hL6 := Lib.hid hl6
    have hHa2 := Lib.hid (fun a e => Nat.lt_of_lt_of_le (hHa.out a e) hk6.size)
    clear hl6 hk6 hHa
    go_wp2
    go_ret2
    exact ⟨hL6.out.bel, .inr ⟨hHr.out, g, A5, c5, rfl, hL6.out, hHa2.out⟩⟩
end Go.Proofs.YtjihklaocgmlpaaDoor
