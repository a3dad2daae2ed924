/- Contracts of the document's Fe: Field, Num, To, Over. -/
import Derived.Test.YtodcjeaannfbnaaFe4
namespace Go.Proofs.Ytodcjeaannfbnaa
open Go.ChangeShapes Go.WideShapes Go.ChangeAt Go.RowKit
set_option maxHeartbeats 2000000
set_option maxRecDepth 100000
attribute [local go_sem ↓] load_fe store_fe execl_fe execs_fe load_num store_num execl_num execs_num
attribute [local go_sem] isHead_mk blkOf_mk isAgg_mk cellsV_mk row_drew rowAt_drew row_new_cells row_old rowAt_new rowAt_old setRow_new zeroFe zeroNum
theorem val_range (f : Nat → Nat) (k : Nat) : val ((List.range k).map f) = dval f k := by
  induction k with
  | zero => rfl
  | succ k ih => rw [List.range_succ, List.map_append, List.map_cons, List.map_nil, val_snoc, ih, List.length_map, List.length_range]; rfl
theorem IsV.fe {W : World} {g n : Nat} (h : At W g .i64 16 (dgt n)) (hn : n < 2 ^ 256) : IsV W (.slice (some ⟨g, 0, none⟩) 16 16) n := by
  have hl : ((List.range 16).map (dgt n)).length = 16 := by simp
  refine ⟨some ⟨g, 0, none⟩, (List.range 16).map (dgt n), 16, by rw [hl], ⟨fun j u hu => ?_, fun d hd => ?_, by omega, by omega⟩, ?_, by omega⟩
  · refine ⟨⟨g, 0, none⟩, rfl, h.lt, ?_⟩
    have hj : j < 16 := by
      rcases Nat.lt_or_ge j 16 with h1 | h1
      · exact h1
      · rw [List.getElem?_eq_none (by simp [digV]; omega)] at hu; cases hu
    have h1 := h.cell hj
    have h2 : (⟨g, 0, none⟩ : Addr).add j = ⟨g, j, none⟩ := by
      by_cases e : j = 0
      · subst e; simp [Addr.add]
      · simp [Addr.add, e]
    rw [h2, h1, ← hu]
    simp [digV, List.getElem?_range hj]
  · obtain ⟨i, -, rfl⟩ := List.mem_map.1 hd
    exact dgt_lt _ _
  · rw [val_range, dval_dgt, p16, Nat.mod_eq_of_lt hn]
theorem fe_Num (n : Nat) (w : World) (hn : n < 2 ^ 256) : Calls Try.prog 19 #[feV n] w fun e w' => e = .returned (numV n) ∧ Below w.heap.size w w' := by
  have hl := Lib.hid hn
  clear hn
  have hcn := arrK_cells .u64 4 (wd n)
  have hcz := arrK_cells .u64 4 (wd 0)
  unfold feV
  have hL0 : Below w.heap.size w ((w.alloc (Obj.cells (arrK .i64 16 (dgt n)) 26)).alloc (Obj.cells (arrK .u64 4 (wd 0)) 24)) := by go_grown
  have hA0 : At ((w.alloc (Obj.cells (arrK .i64 16 (dgt n)) 26)).alloc (Obj.cells (arrK .u64 4 (wd 0)) 24)) w.heap.size .i64 16 (dgt n) := (At.new _ rfl).old _
  have hR0 : Row ((w.alloc (Obj.cells (arrK .i64 16 (dgt n)) 26)).alloc (Obj.cells (arrK .u64 4 (wd 0)) 24)) (w.heap.size + 1) 4 := (At.new (k := .u64) (f := wd 0) _ (by simp)).row
  have hL := Lib.hid hL0
  have hR := Lib.hid hR0
  have hA := Lib.hid hA0
  clear hL0 hR0 hA0
  go_enter Try.func19, Try.ntmps19
  go_upto_region 1 with (fail)
  generalize (w.alloc _).alloc _ = W0 at *
  have hc := Lib.hid (toNumN W0 (IsV.fe hA.out hl.out))
  unfold numV at hc
  go_wp2_with fail
  refine hc.out.mono ?_
  rintro e w2 ⟨rfl, hb⟩
  have hR2 := row_below hR.out hb hR.out.lt
  have hL2 := Lib.hid (below_step hb hL.out (Nat.le_refl _))
  clear hA hR hL hb
  dsimp only
  go_wp2_with fail
  exact ret_stored (p := 2) (ty := 24) (g := w.heap.size + 1) (n := 4) (c := arrK .u64 4 (wd n)) rfl Try.underlying24 rfl (by kernel_rfl) rfl hR2 hcn.1 rfl ⟨rfl, below_setRow hL2.out (by omega)⟩
theorem P_mul_big : 65536 * fP < big := mul_big (m := 17) (n := 256) (by omega) P_lt (by omega)
theorem P_big : fP < big := lt_big P_lt (by omega)
theorem ref_Field (a : Nat) (w : World) (ha : a < 2 ^ 256) : Calls Try.prog 12 #[numV a] w fun e w' => e = .returned (feV (a % fP)) ∧ Below w.heap.size w w' := by
  have hl := Lib.hid ha
  have h1 := Lib.hid (fun V => ref_OfNum a V ha)
  have h2 := Lib.hid (fun V => ref_Modulus V)
  have h3 := Lib.hid (fun u v V (hu : IsN V u a) (hv : IsN V v fP) => restN (k := 256) V hu ha (by omega) (hv.toV P_big) (Nat.lt_trans (by omega) fP_pos) P_mul_big)
  have h4 := Lib.hid (fun u V (hu : IsN V u (a % fP)) => ref_feOf V (hu.toV (lt_big (Nat.lt_trans lt_P P_lt) (by omega))))
  obtain ⟨r, hr⟩ : ∃ r, a % fP = r := ⟨_, rfl⟩
  rw [hr] at h3 h4 ⊢
  obtain ⟨p, hp⟩ : ∃ r, fP = r := ⟨_, rfl⟩
  rw [hp] at h2 h3
  clear hr hp ha
  have hcr := arrK_cells .i64 16 (dgt r)
  have hcz := arrK_cells .i64 16 fun _ => 0
  unfold numV at h1 ⊢
  unfold feV at h4 ⊢
  have hL0 : Below w.heap.size w ((w.alloc (Obj.cells (arrK .u64 4 (wd a)) 24)).alloc (Obj.cells (arrK .i64 16 fun _ => 0) 26)) := by go_grown
  have hA0 : At ((w.alloc (Obj.cells (arrK .u64 4 (wd a)) 24)).alloc (Obj.cells (arrK .i64 16 fun _ => 0) 26)) w.heap.size .u64 4 (wd a) := (At.new _ rfl).old _
  have hR0 : Row ((w.alloc (Obj.cells (arrK .u64 4 (wd a)) 24)).alloc (Obj.cells (arrK .i64 16 fun _ => 0) 26)) (w.heap.size + 1) 16 := (At.new (k := .i64) (f := fun _ => 0) _ (by simp)).row
  have hL := Lib.hid hL0
  have hR := Lib.hid hR0
  have hA := Lib.hid hA0
  clear hL0 hR0 hA0
  go_enter Try.func12, Try.ntmps12
  go_upto_region 1 with (fail)
  generalize (w.alloc _).alloc _ = W0 at *
  have hr1 := hA.out.row
  have hr2 := hA.out.eq
  go_wp2_with fail
  refine (h1.out _).mono ?_
  rintro e w2 ⟨u, rfl, hu, hb⟩
  have hU := Lib.hid hu
  replace hR := Lib.hid (row_below hR.out hb hR.out.lt)
  replace hL := Lib.hid (below_step hb hL.out (Nat.le_refl _))
  clear hr1 hr2 hA hb hu h1
  dsimp only
  go_wp2_with fail
  refine (h2.out _).mono ?_
  rintro e w3 ⟨v, rfl, hv, hb⟩
  have hV := Lib.hid hv
  replace hU := Lib.hid (hU.out.step hb)
  replace hR := Lib.hid (row_below hR.out hb hR.out.lt)
  replace hL := Lib.hid (below_step hb hL.out (Nat.le_refl _))
  clear hb hv h2
  dsimp only
  go_wp2_with fail
  refine (h3.out _ _ _ hU.out hV.out).mono ?_
  rintro e w4 ⟨x, rfl, hx, hb⟩
  have hX := Lib.hid hx
  replace hR := Lib.hid (row_below hR.out hb hR.out.lt)
  replace hL := Lib.hid (below_step hb hL.out (Nat.le_refl _))
  clear hb hx h3 hU hV
  dsimp only
  go_wp2_with fail
  refine (h4.out _ _ hX.out).mono ?_
  rintro e w5 ⟨rfl, hb⟩
  have hR2 := row_below hR.out hb hR.out.lt
  have hL2 := Lib.hid (below_step hb hL.out (Nat.le_refl _))
  clear hb hX h4 hR hL
  dsimp only
  go_wp2_with fail
  exact ret_stored (p := 2) (ty := 26) (g := w.heap.size + 1) (n := 16) (c := arrK .i64 16 (dgt r)) rfl Try.underlying26 rfl (by kernel_rfl) rfl hR2 hcr.1 rfl ⟨rfl, below_setRow hL2.out (by omega)⟩
/-- What To holds behind s bits. -/
def toS (a n s : Nat) : Nat := a ^ (n % 2 ^ s) % fP
theorem toS_start (a n : Nat) : toS a n 0 = 1 := by
  unfold toS
  rw [Nat.pow_zero, Nat.mod_one, Nat.pow_zero]
  decide +kernel
theorem toS_end {a n : Nat} (hn : n < 2 ^ 256) : toS a n 256 = a ^ n % fP := by unfold toS; rw [Nat.mod_eq_of_lt hn]
theorem toS_lt (a n s : Nat) : toS a n s < 2 ^ 256 := Nat.lt_trans lt_P P_lt
theorem toS_zero {a n s : Nat} (h : n / 2 ^ s % 2 = 0) : toS a n (s + 1) = toS a n s := by
  unfold toS
  rw [Nat.pow_succ, Nat.mod_mul, h, Nat.mul_zero, Nat.add_zero]
theorem toS_one {a n s v : Nat} (h : n / 2 ^ s % 2 = 1) (hv : v % fP = a ^ 2 ^ s % fP) : toS a n s * v % fP = toS a n (s + 1) := by
  unfold toS
  rw [Nat.pow_succ, Nat.mod_mul, h, Nat.mul_one, Nat.mul_mod, hv, ← Nat.mul_mod, Nat.mod_mul_mod, ← Nat.pow_add]
theorem sq_step {a s v : Nat} (hv : v % fP = a ^ 2 ^ s % fP) : v * v % fP % fP = a ^ 2 ^ (s + 1) % fP := by
  rw [Nat.mod_mod, Nat.mul_mod, hv, ← Nat.mul_mod, ← Nat.pow_add, Nat.pow_succ, Nat.mul_two]
theorem fe_To (a n : Nat) (u : Value) (w : World) (ha : a < 2 ^ 256) (hn : n < 2 ^ 256) (hu : IsV w u n) : Calls Try.prog 99 #[feV a, u] w fun e w' => e = .returned (feV (a ^ n % fP)) ∧ Below w.heap.size w w' := by
  have hal := Lib.hid ha
  have h1 := Lib.hid (fun V => ref_small 1 V (by omega))
  have h2 := Lib.hid (fun V (h : Below w.heap.size w V) => bitsN 256 V (by omega) (hu.step h))
  have hBy := Lib.hid (fun x y V (hx : x < 2 ^ 256) (hy : y < 2 ^ 256) => fe_By x y V hx hy)
  have hlow := Lib.hid (fun x => Nat.lt_trans (lt_P (a := x)) P_lt)
  have hts := Lib.hid (toS_start a n)
  have hte := Lib.hid (toS_end (a := a) hn)
  have htl := Lib.hid (toS_lt a n)
  have ht0 := Lib.hid (fun s (h : n / 2 ^ s % 2 = 0) => toS_zero (a := a) h)
  have ht1 := Lib.hid (fun s v (h : n / 2 ^ s % 2 = 1) (hv : v % fP = a ^ 2 ^ s % fP) => toS_one h hv)
  have hsq := Lib.hid (fun s v (hv : v % fP = a ^ 2 ^ s % fP) => sq_step hv)
  have hv0 := Lib.hid (show a % fP = a ^ 2 ^ 0 % fP by rw [Nat.pow_zero, Nat.pow_one])
  obtain ⟨B, hB⟩ : ∃ B, (fun i => n / 2 ^ i % 2) = B := ⟨_, rfl⟩
  have hBi : ∀ i, n / 2 ^ i % 2 = B i := fun i => by rw [← hB]
  have hB01 : ∀ i, B i = 0 ∨ B i = 1 := fun i => by rw [← hBi]; omega
  obtain ⟨S, hS⟩ : ∃ S, (fun s => a ^ 2 ^ s % fP) = S := ⟨_, rfl⟩
  have hSi : ∀ i, a ^ 2 ^ i % fP = S i := fun i => by rw [← hS]
  simp only [hBi] at ht0 ht1
  simp only [hSi] at ht1 hsq hv0
  unfold BitsR at h2
  rw [hB] at h2
  obtain ⟨r, hr⟩ : ∃ r, a ^ n % fP = r := ⟨_, rfl⟩
  rw [hr] at hte ⊢
  obtain ⟨F, hF⟩ : ∃ F, toS a n = F := ⟨_, rfl⟩
  rw [hF] at hts hte htl ht0 ht1
  obtain ⟨p, hp⟩ : ∃ p, fP = p := ⟨_, rfl⟩
  rw [hp] at hBy hlow ht1 hsq hv0
  replace hB01 := Lib.hid hB01
  clear hp hF hr hB hBi hS hSi hu hn ha
  have hcz := arrK_cells .i64 16 fun _ => 0
  have hc1 := arrK_cells .i64 16 (dgt 1)
  unfold feV at h1 hBy ⊢
  have hL0 : Below w.heap.size w ((w.alloc (Obj.cells (arrK .i64 16 (dgt a)) 26)).alloc (Obj.cells (arrK .i64 16 fun _ => 0) 26)) := by go_grown
  have hA0 : At ((w.alloc (Obj.cells (arrK .i64 16 (dgt a)) 26)).alloc (Obj.cells (arrK .i64 16 fun _ => 0) 26)) w.heap.size .i64 16 (dgt a) := (At.new _ rfl).old _
  have hR0 : Row ((w.alloc (Obj.cells (arrK .i64 16 (dgt a)) 26)).alloc (Obj.cells (arrK .i64 16 fun _ => 0) 26)) (w.heap.size + 1) 16 := (At.new (k := .i64) (f := fun _ => 0) _ (by simp)).row
  have hL := Lib.hid hL0
  have hR := Lib.hid hR0
  have hA := Lib.hid hA0
  clear hL0 hR0 hA0
  go_enter Try.func99, Try.ntmps99
  go_upto_region 1 with (fail)
  generalize (w.alloc _).alloc _ = W0 at *
  go_wp2_with fail
  refine (h1.out _).mono ?_
  rintro e w2 ⟨rfl, hb⟩
  have hA2 := hA.out.step hb
  have hR2 := row_below hR.out hb hR.out.lt
  have hL2 := below_step hb hL.out (Nat.le_refl _)
  have hlt : w.heap.size + 1 < w2.heap.size := hR2.lt
  clear hA hR hL hb h1
  have hA := Lib.hid (hA2.old (Obj.cells (arrK .i64 16 (dgt 1)) 26))
  have hR := Lib.hid ((row_old (o := Obj.cells (arrK .i64 16 (dgt 1)) 26) hR2.lt).2 hR2)
  have hL := Lib.hid (Below.trans hL2 ((below_alloc w2 (Obj.cells (arrK .i64 16 (dgt 1)) 26)).mono hL2.size))
  have hX := Lib.hid (At.new (w := w2) (k := .i64) (m := 16) (f := dgt 1) 26 rfl)
  clear hA2 hR2 hL2
  dsimp only
  go_upto_region 2 with (fail)
  obtain ⟨g, hg⟩ : ∃ g, w2.heap.size = g := ⟨_, rfl⟩
  rw [hg] at hX hlt ⊢
  clear hg
  generalize w2.alloc _ = W1 at *
  have h2' := Lib.hid (h2.out W1 hL.out)
  clear h2
  go_wp2_with fail
  refine h2'.out.mono ?_
  rintro e w3 ⟨gb, rfl, hrow, heq, hgb, hb⟩
  have hlt2 : g < W1.heap.size := hX.out.lt
  replace hA := Lib.hid (hA.out.step hb)
  replace hX := Lib.hid (hX.out.step hb)
  replace hR := Lib.hid (row_below hR.out hb hR.out.lt)
  replace hL := Lib.hid (below_step hb hL.out (Nat.le_refl _))
  have hY := Lib.hid (show At w3 gb .i64 256 B from ⟨hrow, heq⟩)
  rw [← hts.out] at hX
  clear hrow heq hb h2'
  dsimp only
  go_wp2_with fail
  go_loopw [12] (fun i wr => ∃ (s v : Nat), i = .int .i64 s ∧ s ≤ 256 ∧ Hid (v < 2 ^ 256) ∧ Hid (v % p = S s) ∧ Hid (At wr w.heap.size .i64 16 (dgt v)) ∧ Hid (Row wr (w.heap.size + 1) 16) ∧ Hid (At wr g .i64 16 (dgt (F s))) ∧ Hid (At wr gb .i64 256 B) ∧ Hid (Below w.heap.size w wr)) (fun i _ => 256 - (intOf i).toNat)
  case atStart => exact ⟨0, a, rfl, by omega, hal, hv0, hA, hR, hX, hY, hL⟩
  case round =>
    clear hA hR hX hY hL hal hv0 hts
    obtain ⟨s, v, rfl, hs, hvl, hvS, hA, hR, hX, hY, hL⟩ := hrel
    by_cases h256 : s = 256
    · subst h256
      rw [hte.out] at hX
      rw [show ((256 : Nat) : Int) = 256 from rfl]
      have hr1 := hX.out.row
      have hr2 := hX.out.eq
      have hr3 := hR.out
      have hcr := arrK_cells .i64 16 (dgt r)
      clear hBy ht0 ht1 hsq
      go_wp2_with fail
      exact ret_stored (p := 4) (ty := 26) (g := w.heap.size + 1) (n := 16) (c := arrK .i64 16 (dgt r)) rfl Try.underlying26 rfl (by kernel_rfl) rfl hr3 hcr.1 rfl ⟨rfl, below_setRow hL.out (by omega)⟩
    · have hs256 : (s : Int) < 256 := by omega
      have cy := hY.out.cell (i := s) (by omega)
      have hB1 := Lib.hid (fun V => hBy.out (F s) v V (htl.out s) hvl.out)
      have hB2 := Lib.hid (fun V => hBy.out v v V hvl.out hvl.out)
      have hq := Lib.hid (hsq.out s v hvS.out)
      have hz0 := Lib.hid (ht0.out s)
      have hz1 := Lib.hid (fun h => ht1.out s v h hvS.out)
      have hql := Lib.hid (hlow.out (v * v))
      have hb01 := hB01.out s
      obtain ⟨q, hq'⟩ : ∃ q, v * v % p = q := ⟨_, rfl⟩
      rw [hq'] at hB2 hq hql
      obtain ⟨bt, hbt⟩ : ∃ q, B s = q := ⟨_, rfl⟩
      rw [hbt] at cy hz0 hz1 hb01
      clear hq' hbt hBy ht0 ht1 hsq hte hvl hvS
      have hne1 : w.heap.size ≠ g := by omega
      have hne2 : w.heap.size + 1 ≠ g := by omega
      have hne3 : gb ≠ g := by omega
      have hne4 : w.heap.size + 1 ≠ w.heap.size := by omega
      have hne5 : g ≠ w.heap.size := by omega
      have hne6 : gb ≠ w.heap.size := by omega
      have hlog : w.heap.size ≤ g := by omega
      rcases hb01 with rfl | rfl
      · have hF := hz0.out rfl
        rw [← hF] at hX
        rw [show ((0 : Nat) : Int) = 0 from rfl] at cy
        have hr1 := hA.out.row
        have hr2 := hA.out.eq
        clear hF hz0 hz1 hB1
        go_wp2_with fail
        refine (hB2.out _).mono ?_
        rintro e w5 ⟨rfl, hb⟩
        have ha5 := row_below hA.out.row hb hA.out.lt
        have hA6 := Lib.hid (At.put (k := .i64) (f := dgt q) ha5)
        have hX6 := Lib.hid ((hX.out.step hb).far (c := arrK .i64 16 (dgt q)) hne5)
        have hY6 := Lib.hid ((hY.out.step hb).far (c := arrK .i64 16 (dgt q)) hne6)
        have hR6 := Lib.hid ((row_setRow_far (c' := arrK .i64 16 (dgt q)) hne4).2 (row_below hR.out hb hR.out.lt))
        have hL6 := Lib.hid (below_setRow (c := arrK .i64 16 (dgt q)) (below_step hb hL.out (Nat.le_refl _)) (Nat.le_refl _))
        have hcq := arrK_cells .i64 16 (dgt q)
        clear hr1 hr2 hb hA hX hY hR hL hB2 cy
        dsimp only
        go_wp2_with fail
        go_roundw
        case rel => exact ⟨s + 1, q, by go_num, by omega, hql, hq, hA6, hR6, hX6, hY6, hL6⟩
        case measure => simp [intOf]; omega
      · have hF := Lib.hid (hz1.out rfl)
        rw [show ((1 : Nat) : Int) = 1 from rfl] at cy
        rw [hF.out] at hB1
        have hr1 := hA.out.row
        have hr2 := hA.out.eq
        have hr3 := hX.out.row
        have hr4 := hX.out.eq
        clear hF hz0 hz1
        go_wp2_with fail
        refine (hB1.out _).mono ?_
        rintro e w4 ⟨rfl, hb⟩
        have ha4 := row_below hX.out.row hb hX.out.lt
        have hX4 := Lib.hid (At.put (k := .i64) (f := dgt (F (s + 1))) ha4)
        have hA4 := Lib.hid ((hA.out.step hb).far (c := arrK .i64 16 (dgt (F (s + 1)))) hne1)
        have hY4 := Lib.hid ((hY.out.step hb).far (c := arrK .i64 16 (dgt (F (s + 1)))) hne3)
        have hR4 := Lib.hid ((row_setRow_far (c' := arrK .i64 16 (dgt (F (s + 1)))) hne2).2 (row_below hR.out hb hR.out.lt))
        have hL4 := Lib.hid (below_setRow (c := arrK .i64 16 (dgt (F (s + 1)))) (below_step hb hL.out (Nat.le_refl _)) hlog)
        have hcq4 := arrK_cells .i64 16 (dgt (F (s + 1)))
        clear hr1 hr2 hr3 hr4 hb hA hX hY hR hL hB1 cy
        have hr1 := hA4.out.row
        have hr2 := hA4.out.eq
        dsimp only
        go_wp2_with fail
        refine (hB2.out _).mono ?_
        rintro e w5 ⟨rfl, hb⟩
        have ha5 := row_below hA4.out.row hb hA4.out.lt
        have hA6 := Lib.hid (At.put (k := .i64) (f := dgt q) ha5)
        have hX6 := Lib.hid ((hX4.out.step hb).far (c := arrK .i64 16 (dgt q)) hne5)
        have hY6 := Lib.hid ((hY4.out.step hb).far (c := arrK .i64 16 (dgt q)) hne6)
        have hR6 := Lib.hid ((row_setRow_far (c' := arrK .i64 16 (dgt q)) hne4).2 (row_below hR4.out hb hR4.out.lt))
        have hL6 := Lib.hid (below_setRow (c := arrK .i64 16 (dgt q)) (below_step hb hL4.out (Nat.le_refl _)) (Nat.le_refl _))
        have hcq := arrK_cells .i64 16 (dgt q)
        clear hr1 hr2 hb hA4 hX4 hY4 hR4 hL4 hB2
        dsimp only
        go_wp2_with fail
        go_roundw
        case rel => exact ⟨s + 1, q, by go_num, by omega, hql, hq, hA6, hR6, hX6, hY6, hL6⟩
        case measure => simp [intOf]; omega
def SRel.fN (m : Nat) : SRel := ⟨fun v w => IsN w v m, fun _ _ _ hb h => h.step hb⟩
def SRel.fV (m : Nat) : SRel := ⟨fun v w => IsV w v m, fun _ _ _ hb h => h.step hb⟩
theorem fe_Over (av : Nat) (w : World) (ha : av < 2 ^ 256) : Calls Try.prog 27 #[feV av] w fun e w' => e = .returned (feV (invP av)) ∧ Below w.heap.size w w' := by
  have h2 := Lib.hid (fun V => ref_Modulus V)
  have h3 := Lib.hid (fun u v V (hu : IsN V u fP) (hv : IsV V v 2) => minusN V (hu.toV P_big) hv (Nat.le_trans (by omega) (Nat.le_of_lt fP_pos)))
  have hq : fP - 2 < 2 ^ 256 := Nat.lt_of_le_of_lt (Nat.sub_le _ _) P_lt
  have hT := Lib.hid (fun u V (hu : IsN V u (fP - 2)) => fe_To av (fP - 2) u V ha hq (hu.toV (lt_big hq (by omega))))
  unfold invP
  obtain ⟨r, hr⟩ : ∃ r, av ^ (fP - 2) % fP = r := ⟨_, rfl⟩
  rw [hr] at hT ⊢
  obtain ⟨q, hq'⟩ : ∃ r, fP - 2 = r := ⟨_, rfl⟩
  rw [hq'] at h3 hT
  obtain ⟨p, hp⟩ : ∃ r, fP = r := ⟨_, rfl⟩
  rw [hp] at h2 h3
  clear hr hp hq' hq ha
  have hcr := arrK_cells .i64 16 (dgt r)
  have hcz := arrK_cells .i64 16 fun _ => 0
  unfold feV at hT ⊢
  have hL0 : Below w.heap.size w ((w.alloc (Obj.cells (arrK .i64 16 (dgt av)) 26)).alloc (Obj.cells (arrK .i64 16 fun _ => 0) 26)) := by go_grown
  have hA0 : At ((w.alloc (Obj.cells (arrK .i64 16 (dgt av)) 26)).alloc (Obj.cells (arrK .i64 16 fun _ => 0) 26)) w.heap.size .i64 16 (dgt av) := (At.new _ rfl).old _
  have hR0 : Row ((w.alloc (Obj.cells (arrK .i64 16 (dgt av)) 26)).alloc (Obj.cells (arrK .i64 16 fun _ => 0) 26)) (w.heap.size + 1) 16 := (At.new (k := .i64) (f := fun _ => 0) _ (by simp)).row
  have hL := Lib.hid hL0
  have hR := Lib.hid hR0
  have hA := Lib.hid hA0
  clear hL0 hR0 hA0
  go_enter Try.func27, Try.ntmps27
  go_upto_region 1 with (fail)
  generalize (w.alloc _).alloc _ = W0 at *
  generalize ha0 : Act.mk _ _ = a0
  have e1 : a0.tmps[1]?.getD undef = .pointer (some ⟨w.heap.size, 0, none⟩) := by rw [← ha0]; rfl
  have e2 : a0.tmps[2]?.getD undef = .pointer (some ⟨w.heap.size + 1, 0, none⟩) := by rw [← ha0]; rfl
  have hz0 : a0.tmps.size = 8 := by rw [← ha0]; rfl
  have hha0 := Lib.hid ha0
  clear ha0
  refine wp_region_tail (fun jx_ => match jx_ with | 0 => SRel.is (.agg (arrK .i64 16 (dgt av))) | 1 => SRel.fN p | 2 => SRel.fV 2 | 3 => SRel.fN q | 4 => SRel.is (.agg (arrK .i64 16 (dgt r))) | 5 => SRel.any | _ => SRel.any) 5 (by kernel_rfl) (by kernel_rfl) (by kernel_rfl) (slotsOk_of hz0 (by kernel_rfl)) (by kernel_rfl) ⟨?_, ?_, ?_, ?_, ?_, ?_, trivial⟩ (of_decide_eq_true (by kernel_rfl))
  · rw [if_neg (by decide)]
    refine calmT_step rfl fun a ω κ hb hu hc hK => ?_
    have h1 : a.tmps[1]?.getD undef = .pointer (some ⟨w.heap.size, 0, none⟩) := (hu 1 rfl).trans e1
    have hk := Lib.hid (fun w1 (h : Below ω.heap.size ω w1) => hK (.agg (arrK .i64 16 (dgt av))) w1 rfl h)
    clear hK hu hc
    have hr1 := (hA.out.step hb).row
    have hr2 := (hA.out.step hb).eq
    go_simp
    exact hk.out _ (Below.refl _ _)
  · rw [if_neg (by decide)]
    refine calmT_step rfl fun a ω κ hb hu hc hK => ?_
    have hk := Lib.hid (fun v w1 (hv : (SRel.fN p).p v w1) (h : Below ω.heap.size ω w1) => hK v w1 hv h)
    clear hK hu hc
    go_simp
    go_at_call 17
    refine (h2.out _).mono ?_
    rintro e w1 ⟨u, rfl, hu1, hb1⟩
    exact hk.out _ _ hu1 hb1
  · rw [if_neg (by decide)]
    refine calmT_step rfl fun a ω κ hb hu hc hK => ?_
    have hk := Lib.hid (fun v w1 (hv : (SRel.fV 2).p v w1) (h : Below ω.heap.size ω w1) => hK v w1 hv h)
    clear hK hu hc
    go_simp
    exact hk.out _ _ (IsV.lit ω 3 (d := 2) (by omega)) (below_alloc _ _)
  · rw [if_neg (by decide)]
    refine calmT_step rfl fun a ω κ hb hu hc hK => ?_
    have h4 : (SRel.fN p).p (a.tmps[4]?.getD undef) ω := hc 1 4 rfl rfl
    have h5 : (SRel.fV 2).p (a.tmps[5]?.getD undef) ω := hc 2 5 rfl rfl
    have hk := Lib.hid (fun v w1 (hv : (SRel.fN q).p v w1) (h : Below ω.heap.size ω w1) => hK v w1 hv h)
    clear hK hu hc
    go_simp
    go_at_call 71
    refine (h3.out _ _ _ h4 h5).mono ?_
    rintro e w1 ⟨u, rfl, hu1, hb1⟩
    exact hk.out _ _ hu1.toN hb1
  · rw [if_neg (by decide)]
    refine calmT_step rfl fun a ω κ hb hu hc hK => ?_
    have h3 : a.tmps[3]?.getD undef = .agg (arrK .i64 16 (dgt av)) := hc 0 3 rfl rfl
    have h6 : (SRel.fN q).p (a.tmps[6]?.getD undef) ω := hc 3 6 rfl rfl
    have hk := Lib.hid (fun w1 (h : Below ω.heap.size ω w1) => hK (.agg (arrK .i64 16 (dgt r))) w1 rfl h)
    clear hK hu hc
    go_simp
    go_at_call 99
    refine (hT.out _ _ h6).mono ?_
    rintro e w1 ⟨rfl, hb1⟩
    exact hk.out _ hb1
  · rw [if_pos rfl]
    refine last_of rfl fun aa ω hb hu hsz hdf hc => ?_
    have h2 : aa.tmps[2]?.getD undef = .pointer (some ⟨w.heap.size + 1, 0, none⟩) := (hu 2 rfl).trans e2
    have h7 : aa.tmps[7]?.getD undef = .agg (arrK .i64 16 (dgt r)) := hc 4 7 (by decide) rfl
    have hHz := Lib.hid (And.intro hu (And.intro hsz hdf))
    clear hc hu hsz hdf hz0
    have hr1 := row_below hR.out hb hR.out.lt
    have hL2 := Lib.hid (below_step hb hL.out (Nat.le_refl _))
    go_simp
    have ha0 := hha0.out
    subst ha0
    have he := act_patchT (n := 8) 5 [false, false, false, true, true, true, true, true] rfl (by kernel_rfl) hHz.out.1 hHz.out.2.1 hHz.out.2.2
    simp only [patch, cond_true, cond_false, Nat.reduceAdd] at he
    clear hHz hha0 e1 e2
    rw [he]
    clear he
    generalize aa.tmps[3]?.getD undef = x3 at *
    generalize aa.tmps[4]?.getD undef = x4 at *
    generalize aa.tmps[5]?.getD undef = x5 at *
    generalize aa.tmps[6]?.getD undef = x6 at *
    generalize aa.tmps[7]?.getD undef = x7 at *
    go_wp2_with fail
    exact ret_stored (p := 2) (ty := 26) (g := w.heap.size + 1) (n := 16) (c := arrK .i64 16 (dgt r)) rfl Try.underlying26 rfl (by kernel_rfl) rfl hr1 hcr.1 rfl ⟨rfl, below_setRow hL2.out (by omega)⟩
end Go.Proofs.Ytodcjeaannfbnaa
