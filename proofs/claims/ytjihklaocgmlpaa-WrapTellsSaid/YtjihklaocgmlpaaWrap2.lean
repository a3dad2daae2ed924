/- Contract of package wrap: Wrap. -/
import Derived.Test.YtjihklaocgmlpaaWrap1
import Derived.Test.YtjihklaocgmlpaaMode4
import Derived.Test.YtjihklaocgmlpaaAes3
namespace Go.Proofs.Ytjihklaocgmlpaa
open Go.ChangeShapes Go.WideShapes Go.ChangeAt Go.RowKit
set_option maxHeartbeats 4000000
set_option maxRecDepth 100000
attribute [local go_sem ↓] load_a16 store_a16 execl_a16 execs_a16 load_akey store_akey execl_akey execs_akey
attribute [local go_sem] isHead_mk blkOf_mk isAgg_mk cellsV_mk row_drew rowAt_drew row_new_cells row_old rowAt_new rowAt_old setRow_new

/-- The row at first. -/
def wr0 (l : List UInt8) : Nat → Nat := fun p => if p < 8 then 166 else byteAt l (p - 8)
theorem wr0_lt (l : List UInt8) (p : Nat) : wr0 l p < 256 := by
  unfold wr0
  split
  · omega
  · exact byteAt_lt _ _
def badW (l : List UInt8) : Prop := l.length % 8 ≠ 0 ∨ l.length < 16 ∨ 64 < l.length
instance (l : List UInt8) : Decidable (badW l) := by unfold badW; infer_instance
def wrapR (F : Nat → Nat) (R : Nat) (l : List UInt8) : List UInt8 × Nat :=
  if badW l then ([], 1) else (bLs (wrapS F R (l.length / 8) (wr0 l) (6 * (l.length / 8))) (8 + l.length), 0)
theorem wrap_WrapBad (A : Option Addr) (l : List UInt8) (L c R : Nat) (F : Nat → Nat) (w : World) (hl : l.length = L) (hbad : badW l) :
    Calls Try.prog 53 #[.agg (keyV F R), .slice A L c] w (RetOpen (wrapR F R l) w) := by
  have hr0 : wrapR F R l = ([], 1) := if_pos hbad
  rw [hr0]
  have hL0 : Below w.heap.size w (w.alloc (Obj.cells (keyV F R) 42)) := by go_grown
  obtain ⟨r, hr⟩ : ∃ r, r = L % 8 := ⟨_, rfl⟩
  unfold badW at hbad
  rw [hl, ← hr] at hbad
  have hrem : (L : Int) % 8 = (r : Int) := by omega
  have hrt : Int.tmod (L : Int) 8 = (r : Int) := by rw [Int.tmod_eq_emod_of_nonneg (by omega)]; omega
  have hfin : RetOpen ([], 1) w (.returned (.tuple #[.slice none 0 0, .int .i64 1])) (w.alloc (Obj.cells (keyV F R) 42)) := RetOpen.nil hL0
  have hF := Lib.hid hfin
  clear hfin hr hl hr0
  go_enter Try.func53, Try.ntmps53
  by_cases h1 : r = 0
  · have h2 : ((r : Int) != 0) = false := by rw [bne_eq_false_iff_eq]; omega
    by_cases h3 : L < 16
    · have h4 : (L : Int) < 16 := by omega
      clear hbad h1
      go_wp2_with fail
      exact bodyPost_ret (results_tmp2 (t := 4) (u := 5) rfl _ _ _) rfl hF.out
    · have h4 : decide ((L : Int) < 16) = false := by simp; omega
      have h5 : (64 : Int) < (L : Int) := by omega
      clear hbad h1
      go_wp2_with fail
      exact bodyPost_ret (results_tmp2 (t := 4) (u := 5) rfl _ _ _) rfl hF.out
  · have h2 : ((r : Int) != 0) = true := by rw [bne_iff_ne]; omega
    clear hbad h1
    go_wp2_with fail
    exact bodyPost_ret (results_tmp2 (t := 4) (u := 5) rfl _ _ _) rfl hF.out
theorem wrap_WrapOk (A : Option Addr) (l : List UInt8) (L n c R : Nat) (F : Nat → Nat) (w : World) (hA : Rd w w.heap.size A (bytesV l)) (hl : l.length = L) (hL8 : L = 8 * n) (hn2 : 2 ≤ n) (hn8 : n ≤ 8) (hR : R ≤ 14) (hF : ∀ p, F p < 256) :
    Calls Try.prog 53 #[.agg (keyV F R), .slice A L c] w (RetOpen (wrapR F R l) w) := by
  obtain ⟨M, hM⟩ : ∃ M, M = 8 + L := ⟨_, rfl⟩
  obtain ⟨x6, hx6⟩ : ∃ x, x = 6 * n := ⟨_, rfl⟩
  have hr0 : wrapR F R l = (bLs (wrapS F R n (wr0 l) x6) M, 0) := by
    have hnb : ¬ badW l := by unfold badW; rw [hl]; omega
    unfold wrapR
    rw [if_neg hnb, hl, hx6, hM, show L / 8 = n by omega]
  obtain ⟨r0, hr0e⟩ : ∃ r, r = wrapR F R l := ⟨_, rfl⟩
  rw [← hr0e] at hr0 ⊢
  have hHr := Lib.hid hr0
  clear hr0e hr0
  have hfl := fun t ht q => wrapS_lt (n := n) (R := R) hF (wr0_lt l) t ht q
  have K0 : KeyAt ((w.alloc (Obj.cells (keyV F R) 42)).alloc (Obj.cells (arrK .u8 M (cpF (fun _ => 0) 8 L fun p => (l[p]?.getD 0).toNat)) 5)) w.heap.size F R := (KeyAt.new _ rfl).old _
  have T0 : At ((w.alloc (Obj.cells (keyV F R) 42)).alloc (Obj.cells (arrK .u8 M fun _ => 0) 5)) (w.heap.size + 1) .u8 M fun _ => 0 := At.new _ (by simp)
  have T1 : At ((w.alloc (Obj.cells (keyV F R) 42)).alloc (Obj.cells (arrK .u8 M (cpF (fun _ => 0) 8 L fun p => (l[p]?.getD 0).toNat)) 5)) (w.heap.size + 1) .u8 M (fun p => if p < 0 then 166 else if p < 8 then 0 else byteAt l (p - 8)) := (At.new _ (by simp)).congr (fun p hp => by
    unfold cpF byteAt
    rw [if_neg (by omega : ¬ p < 0)]
    by_cases h : p < 8
    · rw [if_neg (by omega), if_pos h]
    · rw [if_pos (by omega), if_neg h])
  have hL0 : Below w.heap.size w ((w.alloc (Obj.cells (keyV F R) 42)).alloc (Obj.cells (arrK .u8 M fun _ => 0) 5)) := by go_grown
  have hL1 : Below w.heap.size w ((w.alloc (Obj.cells (keyV F R) 42)).alloc (Obj.cells (arrK .u8 M (cpF (fun _ => 0) 8 L fun p => (l[p]?.getD 0).toNat)) 5)) := by go_grown
  have hap := fun ty => run_app_bytes (P := Try.prog) (ty := ty) (n := 8) (c := c) SBk T0 (hA.below hL0) (by omega)
  rw [hl, show 8 + L = M from hM.symm] at hap
  have hrem : (L : Int) % 8 = 0 := by omega
  have hrt : Int.tmod (L : Int) 8 = 0 := by rw [Int.tmod_eq_emod_of_nonneg (by omega)]; omega
  have hdv : (L : Int) / 8 = (n : Int) := by omega
  have hdt : Int.tdiv (L : Int) 8 = (n : Int) := by rw [Int.tdiv_eq_ediv_of_nonneg (by omega)]; omega
  have h1 : decide ((L : Int) < 16) = false := by simp; omega
  have h2 : decide ((64 : Int) < (L : Int)) = false := by simp; omega
  have hsum : (8 : Int) + (L : Int) = (M : Int) := by omega
  have hmk : ∀ W : World, (Instr.makeSlice 25 (.int .i64 8) (.int .i64 (M : Nat))).run Try.prog W = .ok (.slice (some ⟨W.heap.size, 0, none⟩) 8 M) (W.alloc (.cells (arrK .u8 M fun _ => 0) 5)) := fun W => run_make_buf (P := Try.prog) (t := 25) (e := 5) Try.underlying25 (by kernel_rfl) .i64 .i64 (n := 8) (M := M) (by omega) (by omega) W
  have hM72 : M ≤ 72 := by omega
  have hM24 : 24 ≤ M := by omega
  have hHM := Lib.hid hM
  have hHL := Lib.hid hL8
  have hH6 := Lib.hid hx6
  have hHl := Lib.hid hl
  clear hM hL8 hx6 hl
  go_enter Try.func53, Try.ntmps53
  go_wp2_with (at_builtin; refine wpList_appR rfl (.tmp 29) (.tmp 30) 25 25 rfl rfl rfl (hap _) ?_)
  generalize (w.alloc (Obj.cells (keyV F R) 42)).alloc (Obj.cells (arrK .u8 M (cpF (fun _ => 0) 8 L fun p => (l[p]?.getD 0).toNat)) 5) = W1 at *
  obtain ⟨gk, hgk⟩ : ∃ g, g = w.heap.size := ⟨_, rfl⟩
  obtain ⟨g, hg⟩ : ∃ g, g = w.heap.size + 1 := ⟨_, rfl⟩
  rw [← hg, ← hgk]
  rw [← hg] at T1
  rw [← hgk] at K0
  have hk0 : w.heap.size ≤ gk := by omega
  have hk1 : gk < g := by omega
  clear hg hgk hmk hrem hrt hap T0 hL0 hsum h1 h2
  go_loopw [32] (fun x wr => ∃ i : Nat, x = .int .i64 i ∧ i ≤ 8 ∧ At wr g .u8 M (fun p => if p < i then 166 else if p < 8 then 0 else byteAt l (p - 8)) ∧ KeyAt wr gk F R ∧ Below w.heap.size w wr) (fun x _ => 8 - (intOf x).toNat)
  case atStart => exact ⟨0, rfl, by omega, T1, K0, hL1⟩
  case round =>
    clear T1 K0 hL1
    obtain ⟨i, rfl, hi, T, K, hL⟩ := hrel
    by_cases hi8 : i = 8
    · subst hi8
      have T2 := T.congr (f' := wr0 l) (fun p hp => by
        unfold wr0
        by_cases h : p < 8
        · rw [if_pos h, if_pos h]
        · rw [if_neg h, if_neg h, if_neg h])
      clear T
      rw [show ((8 : Nat) : Int) = (8 : Int) from rfl]
      go_wp2_with fail
      go_loopw [9] (fun x wr => ∃ s t : Nat, x = .int .i64 t ∧ t = s + 1 ∧ s ≤ x6 ∧ At wr g .u8 M (wrapS F R n (wr0 l) s) ∧ KeyAt wr gk F R ∧ Below w.heap.size w wr) (fun x _ => 50 - (intOf x).toNat)
      case atStart => exact ⟨0, 1, rfl, rfl, by omega, T2, K, hL⟩
      case round =>
        clear T2 K hL
        obtain ⟨s, t, rfl, hst, hs6, T, K, hL⟩ := hrel
        have hx : 6 * (n : Int) = (x6 : Int) := by have := hH6.out; omega
        have hx48 : x6 ≤ 48 := by have := hH6.out; omega
        by_cases hse : s = x6
        · have hle : ¬ (t : Int) ≤ (x6 : Int) := by omega
          have hrd := T.rdB (n := M) (by omega) (fun i _ => hfl s (by omega) i)
          have hF : RetOpen r0 w (.returned (.tuple #[.slice (some ⟨g, 0, none⟩) M M, .int .i64 0])) wr := by
            rw [hHr.out, ← hse]
            exact ⟨some ⟨g, 0, none⟩, M, by rw [bLs_len]; rfl, hrd.more T.lt, hL⟩
          have hHF := Lib.hid hF
          clear hF hrd T K hst
          go_wp2_with fail
          exact bodyPost_ret (results_tmp2 (t := 4) (u := 5) rfl _ _ _) rfl hHF.out
        · have hle : (t : Int) ≤ (x6 : Int) := by omega
          have hts : (t : Int) - 1 = (s : Int) := by omega
          have hn0 : ¬ (n : Int) = 0 := by omega
          obtain ⟨u, hu⟩ : ∃ u, u = s % n := ⟨_, rfl⟩
          have hun : u < n := by rw [hu]; exact Nat.mod_lt _ (by omega)
          have hm1 : (s : Int) % (n : Int) = (u : Int) := by rw [hu]; rfl
          have hm2 : Int.tmod (s : Int) (n : Int) = (u : Int) := by rw [Int.tmod_eq_emod_of_nonneg (by omega), hu]; rfl
          obtain ⟨p, hp⟩ : ∃ p, p = (u + 1) * 8 := ⟨_, rfl⟩
          have hpw : ((u : Int) + 1) * 8 = (p : Int) := by omega
          have hpM : p + 8 ≤ M := by have := hHM.out; have := hHL.out; omega
          have hp8 : 8 ≤ p := by omega
          have hHst := Lib.hid hst
          have hHp := Lib.hid (show 8 * (s % n + 1) = p by rw [← hu]; omega)
          clear hu hp hst
          obtain ⟨f, hf⟩ : ∃ f, f = wrapS F R n (wr0 l) s := ⟨_, rfl⟩
          have hfl8 : ∀ q, f q < 256 := fun q => by rw [hf]; exact hfl s (by omega) q
          have hnext := Lib.hid (show wrapS F R n (wr0 l) (s + 1) = wput f (cntF (encB F R (wblk f p)) t) p by
            rw [hf, ← hHp.out, hHst.out]
            rfl)
          rw [← hf] at T
          clear hf
          go_upto_region 15 with (fail)
          rw [zeroA16]
          have hgw := T.lt
          have T1 := T.old (Obj.cells (arrK .u8 16 fun _ => 0) 38)
          have K1 := K.old (Obj.cells (arrK .u8 16 fun _ => 0) 38)
          have B1 : At (wr.alloc (Obj.cells (arrK .u8 16 fun _ => 0) 38)) wr.heap.size .u8 16 fun _ => 0 := At.new _ rfl
          have hLa := hL.alloc hL.size (Obj.cells (arrK .u8 16 fun _ => 0) 38)
          have hgbk : gk < wr.heap.size := K.lt
          clear T K hL
          generalize wr.alloc (Obj.cells (arrK .u8 16 fun _ => 0) 38) = W2 at *
          generalize wr.heap.size = gb at *
          have hcp := fun ty => run_copy_buf (P := Try.prog) (dT := 25) (sT := 25) (ty := ty) (e := 5) Try.underlying25 (by kernel_rfl) B1 (o := 0) (n := 8) (dl := 8) (dc := 16) (sl := M) (sc := M) (ad := ⟨g, 0, none⟩) (b := f)
            (fun j hj => by rw [add0, Nat.zero_add]; exact T1.cell (by omega)) (by show 8 = min M 8; omega) (by omega)
          have hT := Lib.hid T1
          have hK := Lib.hid K1
          clear K1
          go_upto_region 16 with (fail)
          have B3 := (B1.cp 0 8 f).congr (f' := fun i => if i < 8 then f i else 0) (fun p hp => by
            unfold cpF
            by_cases h : p < 8
            · rw [if_pos (by omega), if_pos h, Nat.sub_zero]
            · rw [if_neg (by omega), if_neg h])
          have T3 := hT.out.far (g' := gb) (c := arrK .u8 16 (cpF (fun _ => 0) 0 8 f)) (by omega)
          have K3 := hK.out.far (g' := gb) (c := arrK .u8 16 (cpF (fun _ => 0) 0 8 f)) (by omega)
          have hL3 := below_setRow (g := gb) (c := arrK .u8 16 (cpF (fun _ => 0) 0 8 f)) hLa (by omega)
          clear hcp hT hK hLa B1 T1
          generalize W2.setRow gb (arrK .u8 16 (cpF (fun _ => 0) 0 8 f)) = W3 at *
          have hcp := fun ty dc sc => run_copy_buf (P := Try.prog) (dT := 25) (sT := 25) (ty := ty) (e := 5) Try.underlying25 (by kernel_rfl) B3.drew (o := 8) (n := 8) (dl := 8) (dc := dc) (sl := M - p) (sc := sc) (ad := ⟨g, p, none⟩) (b := fun i => f (p + i))
            (fun j hj => by rw [add0]; exact T3.drew.cell (by omega)) (by show 8 = min (M - p) 8; omega) (by omega)
          have hp0 : (0 : Int) ≤ (p : Int) := by omega
          have hpm : (p : Int) ≤ (M : Int) := by omega
          have hT := Lib.hid T3
          have hK := Lib.hid K3
          have hB := Lib.hid B3
          clear T3 K3 B3
          go_region
          all_goals
            have B4 := (hB.out.drew.cp 8 8 (fun i => f (p + i))).congr (f' := wblk f p) (fun q hq => by
              unfold cpF wblk
              by_cases h : q < 8
              · rw [if_neg (by omega), if_pos h]
                exact if_pos h
              · rw [if_pos (by omega), if_neg h])
            have T4 := hT.out.drew.far (g' := gb) (c := arrK .u8 16 (cpF (fun i => if i < 8 then f i else 0) 8 8 fun i => f (p + i))) (by omega)
            have K4 := hK.out.drew.far (g' := gb) (c := arrK .u8 16 (cpF (fun i => if i < 8 then f i else 0) 8 8 fun i => f (p + i))) (by omega)
            have hL4 := below_setRow (g := gb) (c := arrK .u8 16 (cpF (fun i => if i < 8 then f i else 0) 8 8 fun i => f (p + i))) hL3.drew (by omega)
            clear hcp hT hK hB hL3
            generalize W3.drew.setRow gb (arrK .u8 16 (cpF (fun i => if i < 8 then f i else 0) 8 8 fun i => f (p + i))) = W4 at *
            have hEn := Lib.hid (fun W => aes_Encrypt (wblk f p) F R W hF (fun i _ => wblk_lt hfl8 p i) hR)
            have hel : ∀ i < 16, encB F R (wblk f p) i < 256 := encB_lt hF fun i _ => wblk_lt hfl8 p i
            have hRB := B4.row
            have hrB := B4.eq
            have hRK := K4.row
            have hrK := K4.eq
            have hT := Lib.hid T4
            have hK := Lib.hid K4
            clear T4 K4 B4
            go_wp2_with fail
            refine (hEn.out _).mono ?_
            rintro e w5 ⟨rfl, hb5⟩
            generalize encB F R (wblk f p) = en at *
            have hcs := arrK_cells .u8 16 en
            have T5 := Lib.hid (hT.out.step hb5)
            have K5 := Lib.hid (hK.out.step hb5)
            have hL5 := below_step hb5 hL4 (Nat.le_refl _)
            have hRB5 := row_below hRB hb5 hRB.lt
            clear hT hK hRB hrB hRK hrK hb5 hL4 hEn
            go_upto_region 18 with (fail)
            have T6 := T5.out.far (g' := gb) (c := arrK .u8 16 en) (by omega)
            have K6 := K5.out.far (g' := gb) (c := arrK .u8 16 en) (by omega)
            have B6 : At (w5.setRow gb (arrK .u8 16 en)) gb .u8 16 en := At.put hRB5
            have hL6 := below_setRow (g := gb) (c := arrK .u8 16 en) hL5 (by omega)
            clear T5 K5 hL5 hRB5 hcs
            generalize w5.setRow gb (arrK .u8 16 en) = W6 at *
            have hc7 := B6.cell (i := 7) (by omega)
            have hf7 := B6.row.frozen 7
            have hx7 := xor_8 (hel 7 (by omega)) (show t < 256 by omega)
            have hcy : IntKind.u8.wrap (t : Int) = (t : Int) := by rw [IntKind.wrap_u8]; omega
            have hB := Lib.hid B6
            have hT := Lib.hid T6
            have hK := Lib.hid K6
            clear T6 K6 B6
            go_upto_region 19 with (fail)
            have B7 := (hB.out.set 7 (en 7 ^^^ t)).congr (f' := cntF en t) (fun _ _ => rfl)
            have T7 := hT.out.farC (a := ⟨gb, 7, none⟩) (v := .int .u8 ((en 7 ^^^ t : Nat) : Int)) (by simp; omega)
            have K7 := hK.out.farC (a := ⟨gb, 7, none⟩) (v := .int .u8 ((en 7 ^^^ t : Nat) : Int)) (by simp; omega)
            have hL7 := hL6.setCell (p := ⟨gb, 7, none⟩) (by simp; omega) (.int .u8 ((en 7 ^^^ t : Nat) : Int))
            clear hc7 hf7 hx7 hcy hB hT hK hL6
            generalize W6.setCell ⟨gb, 7, none⟩ (.int .u8 ((en 7 ^^^ t : Nat) : Int)) = W7 at *
            generalize cntF en t = e7 at *
            have hcp := fun ty => run_copy_buf (P := Try.prog) (dT := 25) (sT := 25) (ty := ty) (e := 5) Try.underlying25 (by kernel_rfl) T7 (o := 0) (n := 8) (dl := M) (dc := M) (sl := 8) (sc := 16) (ad := ⟨gb, 0, none⟩) (b := e7)
              (fun j hj => by rw [add0, Nat.zero_add]; exact B7.cell (by omega)) (by show 8 = min 8 M; omega) (by omega)
            have hK := Lib.hid K7
            clear K7
            go_upto_region 20 with (fail)
            have T8 := T7.cp 0 8 e7
            have B8 := B7.far (g' := g) (c := arrK .u8 M (cpF f 0 8 e7)) (by omega)
            have K8 := hK.out.far (g' := g) (c := arrK .u8 M (cpF f 0 8 e7)) (by omega)
            have hL8 := below_setRow (g := g) (c := arrK .u8 M (cpF f 0 8 e7)) hL7 (by omega)
            clear hcp T7 B7 hK hL7
            generalize W7.setRow g (arrK .u8 M (cpF f 0 8 e7)) = W8 at *
            have hcp := fun ty dc sc => run_copy_buf (P := Try.prog) (dT := 25) (sT := 25) (ty := ty) (e := 5) Try.underlying25 (by kernel_rfl) T8.drew (o := p) (n := 8) (dl := M - p) (dc := dc) (sl := 8) (sc := sc) (ad := ⟨gb, 8, none⟩) (b := fun i => e7 (8 + i))
              (fun j hj => by rw [add0]; exact B8.drew.cell (by omega)) (by show 8 = min 8 (M - p); omega) (by omega)
            have hT := Lib.hid T8
            clear T8 B8
            go_region
            all_goals
              go_wp2_with fail
              go_round
              case rel =>
                refine ⟨s + 1, t + 1, by go_num, by rw [hHst.out], by omega, ?_, K8.drew.far (by omega), below_setRow hL8.drew (by omega)⟩
                refine (hT.out.drew.cp p 8 (fun i => e7 (8 + i))).congr fun q hq => ?_
                rw [hnext.out]
                unfold cpF wput
                by_cases h1 : q < 8
                · rw [if_neg (by omega), if_pos (by omega), if_pos h1, Nat.sub_zero]
                · rw [if_neg h1]
                  by_cases h2 : p ≤ q ∧ q < p + 8
                  · rw [if_pos h2, if_pos h2]
                  · rw [if_neg h2, if_neg h2, if_neg (by omega)]
              case measure => simp [intOf]; omega
    · have hd : decide ((i : Int) < 8) = true := by simp; omega
      have hz : (0 : Int) ≤ (i : Int) := by omega
      have hi8 : (i : Int) < (M : Int) := by omega
      have hc1 := T.cell (i := i) (by omega)
      have hfr := T.row.frozen i
      have hT := Lib.hid T
      clear T
      go_wp2_with fail
      go_round
      case rel => exact ⟨i + 1, by go_num, by omega, (hT.out.set i 166).congr (fun p hp => by
        unfold upd
        by_cases h : p = i
        · rw [if_pos h, if_pos (by omega)]
        · rw [if_neg h]
          show (if p < i then 166 else if p < 8 then 0 else byteAt l (p - 8)) = _
          by_cases h2 : p < i
          · rw [if_pos h2, if_pos (by omega)]
          · rw [if_neg h2, if_neg (by omega : ¬ p < i + 1)]), K.farC (by simp; omega), hL.setCell (by simp; omega) _⟩
      case measure => simp [intOf]; omega
end Go.Proofs.Ytjihklaocgmlpaa
