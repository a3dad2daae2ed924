/- Contract of package mode: Open. -/
import Derived.Test.YtjihklaocgmlpaaMode1
import Derived.Test.YtjihklaocgmlpaaAes4
import Derived.Test.YtjihklaocgmlpaaAes6
namespace Go.Proofs.Ytjihklaocgmlpaa
open Go.ChangeShapes Go.WideShapes Go.ChangeAt Go.RowKit
set_option maxHeartbeats 4000000
set_option maxRecDepth 100000
attribute [local go_sem ↓] load_a16 store_a16 execl_a16 execs_a16 load_akey store_akey execl_akey execs_akey
attribute [local go_sem] isHead_mk blkOf_mk isAgg_mk cellsV_mk row_drew rowAt_drew row_new_cells row_old rowAt_new rowAt_old setRow_new

/-- What stands before block k. -/
def prevF (iv c : Nat → Nat) (k : Nat) : Nat → Nat := if k = 0 then iv else fun i => c (16 * (k - 1) + i)
/-- What is opened, at p. -/
def opnF (F : Nat → Nat) (R : Nat) (iv c : Nat → Nat) : Nat → Nat := fun p => decB F R (fun i => c (16 * (p / 16) + i)) (p % 16) ^^^ prevF iv c (p / 16) (p % 16)
theorem prevF_lt {iv c : Nat → Nat} (hv : ∀ i < 16, iv i < 256) (hc : ∀ p, c p < 256) (k : Nat) : ∀ i < 16, prevF iv c k i < 256 := fun i hi => by
  unfold prevF
  split
  · exact hv i hi
  · exact hc _
theorem prevF_succ (iv c : Nat → Nat) (k : Nat) : prevF iv c (k + 1) = fun i => c (16 * k + i) := by unfold prevF; rw [if_neg (by omega)]; rfl
theorem opnF_at (F : Nat → Nat) (R : Nat) (iv c : Nat → Nat) (k j : Nat) (hj : j < 16) : opnF F R iv c (16 * k + j) = decB F R (fun i => c (16 * k + i)) j ^^^ prevF iv c k j := by
  unfold opnF
  rw [show (16 * k + j) / 16 = k by omega, show (16 * k + j) % 16 = j by omega]
theorem opnF_lt {F : Nat → Nat} {R : Nat} {iv c : Nat → Nat} (hF : ∀ p, F p < 256) (hv : ∀ i < 16, iv i < 256) (hc : ∀ p, c p < 256) (p : Nat) : opnF F R iv c p < 256 :=
  xor_lt8 (decB_lt hF (fun _ _ => hc _) _ (by omega)) (prevF_lt hv hc _ _ (by omega))
/-- The last n bytes are n. -/
def goodO (f : Nat → Nat) (M : Nat) : Prop := 1 ≤ f (M - 1) ∧ f (M - 1) ≤ 16 ∧ ∀ p, p < f (M - 1) → f (M - f (M - 1) + p) = f (M - 1)
instance (f : Nat → Nat) (M : Nat) : Decidable (goodO f M) := by unfold goodO; infer_instance
def openR (F : Nat → Nat) (R : Nat) (iv : Nat → Nat) (l : List UInt8) : List UInt8 × Nat :=
  if l.length = 0 ∨ l.length % 16 ≠ 0 then ([], 1) else
  if goodO (opnF F R iv (byteAt l)) l.length then (bLs (opnF F R iv (byteAt l)) (l.length - opnF F R iv (byteAt l) (l.length - 1)), 0) else ([], 4)
/-- A slice of bytes, and a number. -/
def RetOpen (r : List UInt8 × Nat) (w : World) (e : Ending) (w' : World) : Prop := ∃ A c, e = .returned (.tuple #[.slice A r.1.length c, .int .i64 (r.2 : Nat)]) ∧ Rd w' w'.heap.size A (bytesV r.1) ∧ Below w.heap.size w w'
theorem RetOpen.nil {w w' : World} {n : Nat} (hb : Below w.heap.size w w') : RetOpen ([], n) w (.returned (.tuple #[.slice none 0 0, .int .i64 (n : Nat)])) w' := ⟨none, 0, rfl, Rd.nil, hb⟩

theorem mode_OpenBad (A : Option Addr) (l : List UInt8) (L c R : Nat) (F iv : Nat → Nat) (w : World) (hl : l.length = L) (hbad : L = 0 ∨ L % 16 ≠ 0) (hc : L ≤ c ∧ c ≤ 140737488351232) :
    Calls Try.prog 49 #[.agg (keyV F R), .agg (arrK .u8 16 iv), .slice A L c] w (RetOpen (openR F R iv l) w) := by
  have hr0 : openR F R iv l = ([], 1) := if_pos (by rw [hl]; exact hbad)
  rw [hr0]
  have hL0 : Below w.heap.size w ((w.alloc (Obj.cells (keyV F R) 42)).alloc (Obj.cells (arrK .u8 16 iv) 38)) := by go_grown
  obtain ⟨r, hr⟩ : ∃ r, r = L % 16 := ⟨_, rfl⟩
  have hrem : (L : Int) % 16 = (r : Int) := by omega
  have hrt : Int.tmod (L : Int) 16 = (r : Int) := by rw [Int.tmod_eq_emod_of_nonneg (by omega)]; omega
  have hfin : RetOpen ([], 1) w (.returned (.tuple #[.slice none 0 0, .int .i64 1])) ((w.alloc (Obj.cells (keyV F R) 42)).alloc (Obj.cells (arrK .u8 16 iv) 38)) := RetOpen.nil hL0
  have hF := Lib.hid hfin
  clear hfin
  by_cases h0 : L = 0
  · subst h0
    have h1 : (((0 : Nat) : Int) == 0) = true := rfl
    clear hr hrem hrt hbad
    go_enter Try.func49, Try.ntmps49
    go_wp2_with fail
    exact bodyPost_ret (results_tmp2 (t := 6) (u := 7) rfl _ _ _) rfl hF.out
  · have h1 : ((L : Int) == 0) = false := by rw [beq_eq_false_iff_ne]; omega
    have h2 : ((r : Int) != 0) = true := by rw [bne_iff_ne]; omega
    clear hr hbad
    go_enter Try.func49, Try.ntmps49
    go_wp2_with fail
    exact bodyPost_ret (results_tmp2 (t := 6) (u := 7) rfl _ _ _) rfl hF.out
theorem mode_OpenOk (A : Option Addr) (l : List UInt8) (L m c R : Nat) (F iv : Nat → Nat) (w : World) (hA : Rd w w.heap.size A (bytesV l)) (hl : l.length = L) (hL16 : L = 16 * m) (hm0 : 0 < m) (hc : L ≤ c ∧ c ≤ 140737488351232) (hR : R ≤ 14) (hF : ∀ p, F p < 256) (hv : ∀ i < 16, iv i < 256) :
    Calls Try.prog 49 #[.agg (keyV F R), .agg (arrK .u8 16 iv), .slice A L c] w (RetOpen (openR F R iv l) w) := by
  have hr0 : openR F R iv l = if goodO (opnF F R iv (byteAt l)) L then (bLs (opnF F R iv (byteAt l)) (L - opnF F R iv (byteAt l) (L - 1)), 0) else ([], 4) := by
    unfold openR
    rw [hl, if_neg (by omega)]
  obtain ⟨r0, hr0e⟩ : ∃ r, r = openR F R iv l := ⟨_, rfl⟩
  rw [← hr0e] at hr0 ⊢
  have hcl := fun p => byteAt_lt l p
  obtain ⟨o, ho⟩ : ∃ f, f = opnF F R iv (byteAt l) := ⟨_, rfl⟩
  have hol := fun p => opnF_lt (R := R) hF hv hcl p
  have hoA := fun k j => opnF_at F R iv (byteAt l) k j
  rw [← ho] at hr0 hol hoA
  have hHr := Lib.hid hr0
  have hHo := Lib.hid hoA
  clear hr0e hr0 ho hoA
  have K0 : KeyAt (((w.alloc (Obj.cells (keyV F R) 42)).alloc (Obj.cells (arrK .u8 16 iv) 38)).alloc (Obj.cells (arrK .u8 L fun _ => 0) 5)) w.heap.size F R := ((KeyAt.new _ rfl).old _).old _
  have V0 : At (((w.alloc (Obj.cells (keyV F R) 42)).alloc (Obj.cells (arrK .u8 16 iv) 38)).alloc (Obj.cells (arrK .u8 L fun _ => 0) 5)) (w.heap.size + 1) .u8 16 iv := (At.new _ (by simp)).old _
  have T0 : At (((w.alloc (Obj.cells (keyV F R) 42)).alloc (Obj.cells (arrK .u8 16 iv) 38)).alloc (Obj.cells (arrK .u8 L fun _ => 0) 5)) (w.heap.size + 1 + 1) .u8 L fun _ => 0 := At.new _ (by simp)
  have hL0 : Below w.heap.size w (((w.alloc (Obj.cells (keyV F R) 42)).alloc (Obj.cells (arrK .u8 16 iv) 38)).alloc (Obj.cells (arrK .u8 L fun _ => 0) 5)) := by go_grown
  have h1 : ((L : Int) == 0) = false := by rw [beq_eq_false_iff_ne]; omega
  have hrem : (L : Int) % 16 = 0 := by omega
  have hrt : Int.tmod (L : Int) 16 = 0 := by rw [Int.tmod_eq_emod_of_nonneg (by omega)]; omega
  have hmk : ∀ W : World, (Instr.makeSlice 25 (.int .i64 (L : Nat)) (.int .i64 (L : Nat))).run Try.prog W = .ok (.slice (some ⟨W.heap.size, 0, none⟩) L L) (W.alloc (.cells (arrK .u8 L fun _ => 0) 5)) := fun W => run_make_buf (P := Try.prog) (t := 25) (e := 5) Try.underlying25 (by kernel_rfl) .i64 .i64 (Nat.le_refl L) (by omega) W
  have hHm := Lib.hid hL16
  have hHl := Lib.hid hl
  have hLb : L ≤ 140737488351232 := by omega
  have hL1 : 16 ≤ L := by omega
  clear hL16 hl
  go_enter Try.func49, Try.ntmps49
  go_wp2_with fail
  generalize ((w.alloc (Obj.cells (keyV F R) 42)).alloc (Obj.cells (arrK .u8 16 iv) 38)).alloc (Obj.cells (arrK .u8 L fun _ => 0) 5) = W1 at *
  obtain ⟨gk, hgk⟩ : ∃ g, g = w.heap.size := ⟨_, rfl⟩
  obtain ⟨gv, hgv⟩ : ∃ g, g = w.heap.size + 1 := ⟨_, rfl⟩
  obtain ⟨g, hg⟩ : ∃ g, g = w.heap.size + 1 + 1 := ⟨_, rfl⟩
  rw [← hg, ← hgv, ← hgk]
  rw [← hg] at T0
  rw [← hgv] at V0
  rw [← hgk] at K0
  have hk0 : w.heap.size ≤ gk := by omega
  have hk1 : gk < gv := by omega
  have hk2 : gv < g := by omega
  clear hg hgv hgk hmk hrem hrt h1
  go_loopw [9] (fun x wr => ∃ k a : Nat, x = .int .i64 a ∧ a = 16 * k ∧ k ≤ m ∧ At wr g .u8 L (firstF a o) ∧ KeyAt wr gk F R ∧ At wr gv .u8 16 (prevF iv (byteAt l) k) ∧ Below w.heap.size w wr) (fun x _ => L - (intOf x).toNat)
  case atStart => exact ⟨0, 0, rfl, rfl, by omega, T0.congr (fun p _ => by unfold firstF; rw [if_neg (by omega)]), K0, V0, hL0⟩
  case round =>
    clear T0 K0 V0 hL0
    obtain ⟨k, a, rfl, hak, hkm, T, K, V, hL⟩ := hrel
    by_cases hkM : k = m
    · have haM : a = L := by have := hHm.out; omega
      subst haM
      have T3 := T.congr (f' := o) (fun p hp => if_pos hp)
      clear T K V hak
      obtain ⟨nn, hnn⟩ : ∃ x, x = o (a - 1) := ⟨_, rfl⟩
      obtain ⟨s, hs⟩ : ∃ x, x = a - 1 := ⟨_, rfl⟩
      have hnl : nn < 256 := by rw [hnn]; exact hol _
      have hws : (a : Int) - 1 = (s : Int) := by omega
      have hc1 := T3.cell (i := s) (by omega)
      rw [show o s = nn by rw [hs, hnn]] at hc1
      have hs0 : (0 : Int) ≤ (s : Int) := by omega
      have hs1 : (s : Int) < (a : Int) := by omega
      have hgood := Lib.hid (show goodO o a ↔ (1 ≤ nn ∧ nn ≤ 16 ∧ ∀ p, p < nn → o (a - nn + p) = nn) by unfold goodO; rw [← hnn])
      have hHnn := Lib.hid hnn
      clear hnn hs
      have hcy : IntKind.i64.wrap (nn : Int) = (nn : Int) := by rw [IntKind.wrap_i64]; omega
      have hbadF : ¬ (1 ≤ nn ∧ nn ≤ 16 ∧ ∀ p, p < nn → o (a - nn + p) = nn) → ∀ W, Below w.heap.size w W → RetOpen r0 w (.returned (.tuple #[.slice none 0 0, .int .i64 4])) W := fun h W hW => by
        rw [hHr.out, if_neg (fun h' => h (hgood.out.1 h'))]
        exact RetOpen.nil hW
      by_cases hz : (nn : Int) < 1
      · have hfin := Lib.hid (hbadF (by omega) wr hL)
        clear hbadF hol
        go_wp2_with fail
        exact bodyPost_ret (results_tmp2 (t := 6) (u := 7) rfl _ _ _) rfl hfin.out
      · by_cases h16 : (16 : Int) < (nn : Int)
        · have hfin := Lib.hid (hbadF (by omega) wr hL)
          have hz2 : decide ((nn : Int) < 1) = false := by simp; omega
          clear hbadF hol
          go_wp2_with fail
          exact bodyPost_ret (results_tmp2 (t := 6) (u := 7) rfl _ _ _) rfl hfin.out
        · have hz2 : decide ((nn : Int) < 1) = false := by simp; omega
          have h162 : decide ((16 : Int) < (nn : Int)) = false := by simp; omega
          obtain ⟨u, hu⟩ : ∃ x, x = a - nn := ⟨_, rfl⟩
          have hwu : (a : Int) - (nn : Int) = (u : Int) := by omega
          have hun : u + nn = a := by omega
          have hu0 : (0 : Int) ≤ (u : Int) := by omega
          have hu1 : (u : Int) ≤ (a : Int) := by omega
          have hnu : a - u = nn := by omega
          have hHu := Lib.hid hu
          have hbadF := Lib.hid hbadF
          clear hu
          go_wp2_with fail
          go_loopw [79] (fun x wx => ∃ i : Nat, x = .int .i64 i ∧ i ≤ nn ∧ (∀ p, p < i → o (u + p) = nn) ∧ At wx g .u8 a o ∧ Below w.heap.size w wx) (fun x _ => nn - (intOf x).toNat)
          case atStart => exact ⟨0, rfl, by omega, fun p hp => absurd hp (by omega), T3, hL⟩
          case round =>
            clear T3 hL hc1
            obtain ⟨i, rfl, hi, hall, T, hL⟩ := hrel
            by_cases hin : i = nn
            · have hfin : r0 = (bLs o u, 0) := by
                rw [hHr.out, if_pos (hgood.out.2 ⟨by omega, by omega, fun p hp => by rw [← hHu.out]; exact hall p (by omega)⟩), ← hHnn.out, ← hHu.out]
              have hrd := T.rdB (n := u) (by omega) (fun i _ => hol i)
              have hgx : g + 1 ≤ wr.heap.size := T.lt
              have hF : RetOpen r0 w (.returned (.tuple #[.slice (some ⟨g, 0, none⟩) u u, .int .i64 0])) wr := by
                rw [hfin]
                exact ⟨some ⟨g, 0, none⟩, u, by rw [bLs_len]; rfl, hrd.more hgx, hL⟩
              have hHF := Lib.hid hF
              have hw1 : ¬ (i : Int) < (nn : Int) := by omega
              clear hF hfin hall hol hrd T
              go_wp2_with fail
              exact bodyPost_ret (results_tmp2 (t := 6) (u := 7) rfl _ _ _) rfl hHF.out
            · have hd : (i : Int) < (nn : Int) := by omega
              have hi0 : (0 : Int) ≤ (i : Int) := by omega
              have hc1 := T.cell (i := u + i) (by omega)
              have hyl : o (u + i) < 256 := hol _
              obtain ⟨y, hy⟩ : ∃ y, y = o (u + i) := ⟨_, rfl⟩
              rw [← hy] at hc1 hyl
              by_cases hyn : y = nn
              · have hHa := Lib.hid hall
                have hT := Lib.hid T
                have hbn : ((y : Int) != (nn : Int)) = false := by rw [bne_eq_false_iff_eq]; omega
                have hHy := Lib.hid (show o (u + i) = nn by rw [← hy]; exact hyn)
                clear hall hy hyn T hol
                go_wp2_with fail
                go_round
                case rel => exact ⟨i + 1, by go_num, by omega, fun p hp => by
                  by_cases hpi : p = i
                  · rw [hpi]; exact hHy.out
                  · exact hHa.out p (by omega), hT.out, hL⟩
                case measure => simp [intOf]; omega
              · have hbn : ((y : Int) != (nn : Int)) = true := by rw [bne_iff_ne]; omega
                have hfin := Lib.hid (hbadF.out (fun h => hyn (by rw [hy, hHu.out]; exact h.2.2 i (by omega))) wr hL)
                clear hall hy hyn T hol
                go_wp2_with fail
                exact bodyPost_ret (results_tmp2 (t := 6) (u := 7) rfl _ _ _) rfl hfin.out
    · have haM : (a : Int) < (L : Int) := by have := hHm.out; omega
      have ha16 : a + 16 ≤ L := by have := hHm.out; omega
      have hHak := Lib.hid hak
      clear hak
      obtain ⟨A1, hs1, hs2⟩ := sl_from SBk A L c (L - a) (a : Int) (by omega) (by omega) (by omega) hc.1
      have hA1 := hs2 wr w.heap.size (bytesV l) (by rw [bytesV_length, hHl.out]; omega) (hA.below hL)
      rw [show ((a : Int).toNat * 1) = a by omega, show (bytesV l).drop a = bytesV (l.drop a) by simp [bytesV]] at hA1
      have hdl : (l.drop a).length = L - a := by rw [List.length_drop, hHl.out]
      have hz16 : Cells #[Value.int IntKind.u8 0, Value.int IntKind.u8 0, Value.int IntKind.u8 0, Value.int IntKind.u8 0, Value.int IntKind.u8 0, Value.int IntKind.u8 0, Value.int IntKind.u8 0, Value.int IntKind.u8 0, Value.int IntKind.u8 0, Value.int IntKind.u8 0, Value.int IntKind.u8 0, Value.int IntKind.u8 0, Value.int IntKind.u8 0, Value.int IntKind.u8 0, Value.int IntKind.u8 0, Value.int IntKind.u8 0] 16 := by rw [zeroA16]; exact arrK_cells _ _ _
      have hs1' := Lib.hid hs1
      clear hs2 hs1
      go_wp2_with fail
      rw [zeroA16]
      have hgw := T.lt
      have T1 := T.old (Obj.cells (arrK .u8 16 fun _ => 0) 38)
      have K1 := K.old (Obj.cells (arrK .u8 16 fun _ => 0) 38)
      have V1 := V.old (Obj.cells (arrK .u8 16 fun _ => 0) 38)
      have B1 : At (wr.alloc (Obj.cells (arrK .u8 16 fun _ => 0) 38)) wr.heap.size .u8 16 fun _ => 0 := At.new _ rfl
      have hLa := hL.alloc hL.size (Obj.cells (arrK .u8 16 fun _ => 0) 38)
      have hA2 := hA1.below (below_alloc wr (Obj.cells (arrK .u8 16 fun _ => 0) 38) |>.mono hL.size)
      clear T K V hL hA1
      generalize wr.alloc (Obj.cells (arrK .u8 16 fun _ => 0) 38) = W2 at *
      generalize wr.heap.size = gb at *
      have hcp := fun ty dc sc => run_copy_bytes (P := Try.prog) (dT := 25) (sT := 25) (ty := ty) (e := 5) Try.underlying25 (by kernel_rfl) B1.drew (o := 0) (n := 16) (dl := 16) (dc := dc) (sc := sc) (hA2.below (Below.refl _ _).drew)
        (by rw [hdl]; show 16 = min (L - a) 16; omega) (by omega) (by omega)
      rw [hdl] at hcp
      simp only [List.getElem?_drop] at hcp
      have hs1 := hs1'.out
      have hT := Lib.hid T1
      have hK := Lib.hid K1
      have hV := Lib.hid V1
      have hB := Lib.hid B1
      clear T1 K1 V1 B1 hA2
      go_region
      all_goals
        have B3 : At (W2.drew.setRow gb (arrK .u8 16 (cpF (fun _ => 0) 0 16 fun p => (l[a + p]?.getD 0).toNat))) gb .u8 16 (fun i => byteAt l (a + i)) := (hB.out.drew.cp 0 16 _).congr (fun p hp => by
          unfold cpF byteAt
          rw [if_pos (by omega)]
          rfl)
        have T3 := hT.out.drew.far (g' := gb) (c := arrK .u8 16 (cpF (fun _ => 0) 0 16 fun p => (l[a + p]?.getD 0).toNat)) (by omega)
        have K3 := hK.out.drew.far (g' := gb) (c := arrK .u8 16 (cpF (fun _ => 0) 0 16 fun p => (l[a + p]?.getD 0).toNat)) (by omega)
        have V3 := hV.out.drew.far (g' := gb) (c := arrK .u8 16 (cpF (fun _ => 0) 0 16 fun p => (l[a + p]?.getD 0).toNat)) (by omega)
        have hL3 := below_setRow (g := gb) (c := arrK .u8 16 (cpF (fun _ => 0) 0 16 fun p => (l[a + p]?.getD 0).toNat)) hLa.drew (by omega)
        clear hcp hT hK hV hB hLa hs1
        generalize W2.drew.setRow gb (arrK .u8 16 (cpF (fun _ => 0) 0 16 fun p => (l[a + p]?.getD 0).toNat)) = W3 at *
        obtain ⟨blk, hblk⟩ : ∃ f : Nat → Nat, f = fun i => byteAt l (a + i) := ⟨_, rfl⟩
        rw [← hblk] at B3
        have hbl : ∀ i < 16, blk i < 256 := fun i _ => by rw [hblk]; exact hcl _
        have hDe := Lib.hid (fun W => aes_Decrypt blk F R W hF hbl hR)
        obtain ⟨de, hde⟩ : ∃ f, f = decB F R blk := ⟨_, rfl⟩
        have hdel : ∀ i < 16, de i < 256 := fun i hi => by rw [hde]; exact decB_lt hF hbl i hi
        rw [← hde] at hDe
        obtain ⟨pv, hpv⟩ : ∃ f, f = prevF iv (byteAt l) k := ⟨_, rfl⟩
        have hpl : ∀ i < 16, pv i < 256 := fun i hi => by rw [hpv]; exact prevF_lt hv hcl k i hi
        rw [← hpv] at V3
        have hoj := Lib.hid (show ∀ j < 16, o (a + j) = de j ^^^ pv j from fun j hj => by
          have ha := hHak.out
          rw [hde, hpv, hblk, ha]
          exact hHo.out k j hj)
        have hpn := Lib.hid (show blk = prevF iv (byteAt l) (k + 1) by rw [prevF_succ, hblk, hHak.out])
        clear hblk hde hpv
        have hRB := B3.row
        have hrB := B3.eq
        have hRK := K3.row
        have hrK := K3.eq
        have hcd := arrK_cells .u8 16 de
        have hT := Lib.hid T3
        have hK := Lib.hid K3
        have hV := Lib.hid V3
        have hB := Lib.hid B3
        clear T3 K3 V3 B3
        go_wp2_with fail
        refine (hDe.out _).mono ?_
        rintro e w4 ⟨rfl, hb4⟩
        have T4 := (hT.out.step hb4).old (Obj.cells (arrK .u8 16 de) 38)
        have K4 := (hK.out.step hb4).old (Obj.cells (arrK .u8 16 de) 38)
        have V4 := (hV.out.step hb4).old (Obj.cells (arrK .u8 16 de) 38)
        have B4 := (hB.out.step hb4).old (Obj.cells (arrK .u8 16 de) 38)
        have D4 : At (w4.alloc (Obj.cells (arrK .u8 16 de) 38)) w4.heap.size .u8 16 de := At.new _ rfl
        have hL4 := (below_step hb4 hL3 (Nat.le_refl _)).alloc (Nat.le_trans hL3.size hb4.size) (Obj.cells (arrK .u8 16 de) 38)
        have hbd : gb < w4.heap.size := Nat.lt_of_lt_of_le hB.out.lt hb4.size
        clear hT hK hV hB hRB hrB hRK hrK hb4 hL3 hDe
        go_wp2_with fail
        generalize w4.alloc (Obj.cells (arrK .u8 16 de) 38) = W5 at *
        generalize w4.heap.size = gd at *
        clear hcd hz16
        go_loopw [42] (fun x wx => ∃ j : Nat, x = .int .i64 j ∧ j ≤ 16 ∧ At wx g .u8 L (firstF (a + j) o) ∧ KeyAt wx gk F R ∧ At wx gv .u8 16 pv ∧ At wx gb .u8 16 blk ∧ At wx gd .u8 16 de ∧ Below w.heap.size w wx) (fun x _ => 16 - (intOf x).toNat)
        case atStart => exact ⟨0, rfl, by omega, T4, K4, V4, B4, D4, hL4⟩
        case round =>
          clear T4 K4 V4 B4 D4 hL4
          obtain ⟨j, rfl, hj, T, K, V, B, D, hL⟩ := hrel
          by_cases hj16 : j = 16
          · subst hj16
            have hRB := B.row
            have hrB := B.eq
            have hRV := V.row
            have hcb := arrK_cells .u8 16 blk
            have hT := Lib.hid T
            have hK := Lib.hid K
            clear T K V D B
            go_wp2_with fail
            go_round
            case rel =>
              exact ⟨k + 1, a + 16, by go_num, by have := hHak.out; omega, by omega, hT.out.far (by omega), hK.out.far (by omega), by rw [← hpn.out]; exact At.put hRV, below_setRow hL (by omega)⟩
            case measure => simp [intOf]; omega
          · have hd : (j : Int) < 16 := by omega
            have hz : (0 : Int) ≤ (j : Int) := by omega
            have hc1 := D.cell (i := j) (by omega)
            have hc2 := V.cell (i := j) (by omega)
            obtain ⟨s, hs⟩ : ∃ s, s = a + j := ⟨_, rfl⟩
            have hc3 := T.cell (i := s) (by omega)
            have hfr := T.row.frozen s
            have hx := xor_8 (hdel j (by omega)) (hpl j (by omega))
            have hws : (a : Int) + (j : Int) = (s : Int) := by omega
            have hs0 : (0 : Int) ≤ (s : Int) := by omega
            have hsM : (s : Int) < (L : Int) := by omega
            have hHs := Lib.hid hs
            have hT := Lib.hid T
            have hK := Lib.hid K
            have hV := Lib.hid V
            have hB := Lib.hid B
            have hD := Lib.hid D
            clear hs T K V B D
            go_wp2_with fail
            go_region
            all_goals
              go_wp2_with fail
              go_round
              case rel => exact ⟨j + 1, by go_num, by omega, by
                rw [show a + (j + 1) = s + 1 by rw [hHs.out]; rfl, ← firstF_step]
                have h1 := (hT.out.set s (o s)).drew
                rw [← hHs.out] at h1
                rw [show de j ^^^ pv j = o s by rw [hHs.out]; exact (hoj.out j (by omega)).symm]
                exact h1, (hK.out.farC (by simp; omega)).drew, (hV.out.farC (by simp; omega)).drew, (hB.out.farC (by simp; omega)).drew, (hD.out.farC (by simp; omega)).drew, (hL.setCell (by simp; omega) _).drew⟩
              case measure => simp [intOf]; omega
end Go.Proofs.Ytjihklaocgmlpaa
