/- Contracts of package field: Add, Sub. -/
import Derived.Test.YtgdiokklfihfoaaDoorFd2
import Derived.Test.YtgdiokklfihfoaaDoorOneW
namespace Go.Proofs.YtgdiokklfihfoaaDoor
open Go.ChangeShapes Go.WideShapes Go.ChangeAt Go.RowKit
set_option maxHeartbeats 2000000
set_option maxRecDepth 100000
attribute [local go_sem ↓] load_num store_num execl_num execs_num
attribute [local go_sem] isHead_mk blkOf_mk isAgg_mk cellsV_mk row_drew rowAt_drew row_new_cells row_old rowAt_new rowAt_old setRow_new zeroNum
theorem field_Add (a b : Nat) (w : World) (ha : a < 2 ^ 256) (hb : b < 2 ^ 256) : Calls Tryd.prog 167 #[numV a, numV b] w fun e w' => e = .returned (numV ((a + b) % fP)) ∧ Below w.heap.size w w' := by
  have hLa := Lib.hid (fun V => field_Low a V ha)
  have hLb := Lib.hid (fun V => field_Low b V hb)
  have hsum := add_lt a b
  have hAd := Lib.hid (fun V => limb_Add (a % fP) (b % fP) V (Nat.lt_trans lt_P P_lt) (Nat.lt_trans lt_P P_lt))
  have hs : addN (a % fP) (b % fP) = a % fP + b % fP := Nat.mod_eq_of_lt hsum
  rw [hs] at hAd
  have hLs := Lib.hid (fun V => field_Low (a % fP + b % fP) V hsum)
  rw [add_low] at hLs
  clear ha hb hsum hs
  obtain ⟨r, hr⟩ : ∃ r, (a + b) % fP = r := ⟨_, rfl⟩
  rw [hr] at hLs ⊢
  obtain ⟨s, hs⟩ : ∃ s, a % fP + b % fP = s := ⟨_, rfl⟩
  obtain ⟨o, ho⟩ : ∃ o, overN (a % fP) (b % fP) = o := ⟨_, rfl⟩
  rw [hs] at hLs
  rw [hs, ho] at hAd
  clear hs ho hr
  obtain ⟨la, hla⟩ : ∃ la, a % fP = la := ⟨_, rfl⟩
  obtain ⟨lb, hlb⟩ : ∃ lb, b % fP = lb := ⟨_, rfl⟩
  rw [hla] at hLa
  rw [hlb] at hLb
  rw [hla, hlb] at hAd
  clear hla hlb
  unfold numV at hLa hLb hLs hAd
  have hcs := arrK_cells .u64 4 (wd s)
  have hcr := arrK_cells .u64 4 (wd r)
  unfold numV
  have hcz := arrK_cells .u64 4 (wd 0)
  have hL0 : Below w.heap.size w (((w.alloc (Obj.cells (arrK .u64 4 (wd a)) 41)).alloc (Obj.cells (arrK .u64 4 (wd b)) 41)).alloc (Obj.cells (arrK .u64 4 (wd 0)) 41)) := by go_grown
  have hA0 : At (((w.alloc (Obj.cells (arrK .u64 4 (wd a)) 41)).alloc (Obj.cells (arrK .u64 4 (wd b)) 41)).alloc (Obj.cells (arrK .u64 4 (wd 0)) 41)) (w.heap.size) .u64 4 (wd a) := (((At.new _ (by simp))).old _).old _
  have hB0 : At (((w.alloc (Obj.cells (arrK .u64 4 (wd a)) 41)).alloc (Obj.cells (arrK .u64 4 (wd b)) 41)).alloc (Obj.cells (arrK .u64 4 (wd 0)) 41)) (w.heap.size + 1) .u64 4 (wd b) := ((At.new _ (by simp))).old _
  have hR0 : Row (((w.alloc (Obj.cells (arrK .u64 4 (wd a)) 41)).alloc (Obj.cells (arrK .u64 4 (wd b)) 41)).alloc (Obj.cells (arrK .u64 4 (wd 0)) 41)) (w.heap.size + 1 + 1) 4 := (At.new (k := .u64) (f := wd 0) _ (by simp)).row
  have hL := Lib.hid hL0
  have hR := Lib.hid hR0
  have hA := Lib.hid hA0
  have hB := Lib.hid hB0
  clear hL0 hR0 hA0 hB0
  go_enter Tryd.func167, Tryd.ntmps167
  go_upto_region 1 with (fail)
  generalize (((w.alloc (Obj.cells (arrK .u64 4 (wd a)) 41)).alloc (Obj.cells (arrK .u64 4 (wd b)) 41)).alloc (Obj.cells (arrK .u64 4 (wd 0)) 41)) = W0 at *
  generalize ha0 : Act.mk _ _ = a0
  have e2 : a0.tmps[2]?.getD undef = .pointer (some ⟨w.heap.size, 0, none⟩) := by rw [← ha0]; rfl
  have e3 : a0.tmps[3]?.getD undef = .pointer (some ⟨w.heap.size + 1, 0, none⟩) := by rw [← ha0]; rfl
  have hz0 : a0.tmps.size = 17 := by rw [← ha0]; rfl
  have hha0 := Lib.hid ha0
  clear ha0
  refine wp_region_fresh ⟨fun jx_ => match jx_ with | 0 => some (.agg (arrK .u64 4 (wd a))) | 1 => some (.agg (arrK .u64 4 (wd la))) | 2 => some (.agg (arrK .u64 4 (wd b))) | 3 => some (.agg (arrK .u64 4 (wd lb))) | 4 => some (.tuple #[.agg (arrK .u64 4 (wd s)), .int .u64 (o : Nat)]) | 5 => some (.tuple #[.agg (arrK .u64 4 (wd s)), .int .u64 (o : Nat)]) | 6 => some (.agg (arrK .u64 4 (wd s))) | 7 => some (.int .u64 (o : Nat)) | 10 => some (.int .u64 (o : Nat)) | _ => none, fun jx_ => match jx_ with | 8 => some 4 | _ => none, fun jx_ => match jx_ with | 9 => some 8 | _ => none, fun jx_ => match jx_ with | 9 => arrK .u64 4 (wd s) | _ => #[]⟩ (by kernel_rfl) (by kernel_rfl) (by kernel_rfl) (slotsOk_of hz0 (by kernel_rfl)) rfl ⟨?_, ?_, ?_, ?_, ?_, ?_, ?_, ?_, ?_, ?_, ?_, trivial⟩ ?_
  · refine fstep_val rfl rfl (calm_step rfl fun aa ω κ hb hu hc hK => ?_)
    have h2 : aa.tmps[2]?.getD undef = .pointer (some ⟨w.heap.size, 0, none⟩) := (hu 2 rfl).trans e2
    have hk := Lib.hid (fun w1 (h : Below ω.heap.size ω w1) => hK (.agg (arrK .u64 4 (wd a))) w1 rfl h)
    clear hK hu hc
    have hr1 := (hA.out.step hb).row
    have hr2 := (hA.out.step hb).eq
    go_simp
    exact hk.out _ (Below.refl _ _)
  · refine fstep_val rfl rfl (calm_step rfl fun aa ω κ hb hu hc hK => ?_)
    have h8 : aa.tmps[8]?.getD undef = .agg (arrK .u64 4 (wd a)) := hc 0 8 rfl rfl
    have hk := Lib.hid (fun w1 (h : Below ω.heap.size ω w1) => hK (.agg (arrK .u64 4 (wd la))) w1 rfl h)
    clear hK hu hc
    go_simp
    go_at_call 164
    refine (hLa.out _).mono ?_
    rintro e w1 ⟨rfl, hb1⟩
    exact hk.out _ hb1
  · refine fstep_val rfl rfl (calm_step rfl fun aa ω κ hb hu hc hK => ?_)
    have h3 : aa.tmps[3]?.getD undef = .pointer (some ⟨w.heap.size + 1, 0, none⟩) := (hu 3 rfl).trans e3
    have hk := Lib.hid (fun w1 (h : Below ω.heap.size ω w1) => hK (.agg (arrK .u64 4 (wd b))) w1 rfl h)
    clear hK hu hc
    have hr1 := (hB.out.step hb).row
    have hr2 := (hB.out.step hb).eq
    go_simp
    exact hk.out _ (Below.refl _ _)
  · refine fstep_val rfl rfl (calm_step rfl fun aa ω κ hb hu hc hK => ?_)
    have h10 : aa.tmps[10]?.getD undef = .agg (arrK .u64 4 (wd b)) := hc 2 10 rfl rfl
    have hk := Lib.hid (fun w1 (h : Below ω.heap.size ω w1) => hK (.agg (arrK .u64 4 (wd lb))) w1 rfl h)
    clear hK hu hc
    go_simp
    go_at_call 164
    refine (hLb.out _).mono ?_
    rintro e w1 ⟨rfl, hb1⟩
    exact hk.out _ hb1
  · refine fstep_val rfl rfl (calm_step rfl fun aa ω κ hb hu hc hK => ?_)
    have h9 : aa.tmps[9]?.getD undef = .agg (arrK .u64 4 (wd la)) := hc 1 9 rfl rfl
    have h11 : aa.tmps[11]?.getD undef = .agg (arrK .u64 4 (wd lb)) := hc 3 11 rfl rfl
    have hk := Lib.hid (fun w1 (h : Below ω.heap.size ω w1) => hK (.tuple #[.agg (arrK .u64 4 (wd s)), .int .u64 (o : Nat)]) w1 rfl h)
    clear hK hu hc
    go_simp
    go_at_call 96
    refine (hAd.out _).mono ?_
    rintro e w1 ⟨rfl, hb1⟩
    exact hk.out _ hb1
  · refine fstep_val rfl rfl (calm_step rfl fun aa ω κ hb hu hc hK => ?_)
    have h12 : aa.tmps[12]?.getD undef = .tuple #[.agg (arrK .u64 4 (wd s)), .int .u64 (o : Nat)] := hc 4 12 rfl rfl
    have hk := Lib.hid (fun w1 (h : Below ω.heap.size ω w1) => hK (.tuple #[.agg (arrK .u64 4 (wd s)), .int .u64 (o : Nat)]) w1 rfl h)
    clear hK hu hc
    go_simp
    exact hk.out _ (Below.refl _ _)
  · refine fstep_val rfl rfl (calm_step rfl fun aa ω κ hb hu hc hK => ?_)
    have h7 : aa.tmps[7]?.getD undef = .tuple #[.agg (arrK .u64 4 (wd s)), .int .u64 (o : Nat)] := hc 5 7 rfl rfl
    have hk := Lib.hid (fun w1 (h : Below ω.heap.size ω w1) => hK (.agg (arrK .u64 4 (wd s))) w1 rfl h)
    clear hK hu hc
    go_simp
    exact hk.out _ (Below.refl _ _)
  · refine fstep_val rfl rfl (calm_step rfl fun aa ω κ hb hu hc hK => ?_)
    have h7 : aa.tmps[7]?.getD undef = .tuple #[.agg (arrK .u64 4 (wd s)), .int .u64 (o : Nat)] := hc 5 7 rfl rfl
    have hk := Lib.hid (fun w1 (h : Below ω.heap.size ω w1) => hK (.int .u64 (o : Nat)) w1 rfl h)
    clear hK hu hc
    go_simp
    exact hk.out _ (Below.refl _ _)
  · refine fstep_al (n := 4) rfl rfl fun aa ω κ hK => ?_
    have hk := Lib.hid hK
    clear hK
    go_simp
    exact hk.out _ _ hcz
  · refine fstep_st (j := 8) (n := 4) (d := 5) rfl rfl rfl rfl rfl hcs.1 rfl rfl fun aa ω κ g hb hu hc hp hr hK => ?_
    have h13 : aa.tmps[13]?.getD undef = .agg (arrK .u64 4 (wd s)) := hc 6 13 rfl rfl
    have hk := Lib.hid hK
    clear hK hu hc
    have hcc := hcs
    go_simp
    exact hk.out undef
  · refine fstep_val rfl rfl (calm_step rfl fun aa ω κ hb hu hc hK => ?_)
    have h14 : aa.tmps[14]?.getD undef = .int .u64 (o : Nat) := hc 7 14 rfl rfl
    have hk := Lib.hid (fun w1 (h : Below ω.heap.size ω w1) => hK (.int .u64 (o : Nat)) w1 rfl h)
    clear hK hu hc
    go_simp
    exact hk.out _ (Below.refl _ _)
  · intro a1 w1 G I
    have ha0 := hha0.out
    subst ha0
    have he := act_patch (n := 17) [false, false, false, false, false, true, true, true, true, true, true, true, true, true, true, false, false] rfl (by kernel_rfl) I.un I.sz I.df
    simp only [patch, cond_true, cond_false, Nat.reduceAdd] at he
    have hal5 := I.al 8 5 4 rfl rfl rfl
    have hR2 := Lib.hid (row_below hR.out I.bel hR.out.lt)
    have hL2 := Lib.hid (below_step I.bel hL.out (Nat.le_refl _))
    have hX := Lib.hid (show At w1 (G 8) .u64 4 (wd s) from ⟨(I.blk 8 4 rfl rfl).2, (I.row 9 8 rfl rfl).2.2⟩)
    clear hA hB hR hL hLa hLb hAd
    clear I hz0 hha0 e2 e3
    rw [he]
    clear he
    rw [hal5]
    clear hal5
    generalize a1.tmps[6]?.getD undef = x6 at *
    generalize a1.tmps[7]?.getD undef = x7 at *
    generalize a1.tmps[8]?.getD undef = x8 at *
    generalize a1.tmps[9]?.getD undef = x9 at *
    generalize a1.tmps[10]?.getD undef = x10 at *
    generalize a1.tmps[11]?.getD undef = x11 at *
    generalize a1.tmps[12]?.getD undef = x12 at *
    generalize a1.tmps[13]?.getD undef = x13 at *
    generalize a1.tmps[14]?.getD undef = x14 at *
    have hr1 := hX.out.row
    have hr2 := hX.out.eq
    have hLs := hLs.out
    go_wp2_with fail
    refine (hLs _).mono ?_
    rintro e w2 ⟨rfl, hb⟩
    have hRz := row_below hR2.out hb hR2.out.lt
    have hLz := Lib.hid (below_step hb hL2.out (Nat.le_refl _))
    clear hr1 hr2 hLs hX hb
    dsimp only
    go_wp2_with fail
    exact ret_stored (p := 4) (ty := 41) (g := w.heap.size + 1 + 1) (n := 4) (c := arrK .u64 4 (wd r)) rfl Tryd.underlying41 rfl (by kernel_rfl) rfl hRz hcr.1 rfl ⟨rfl, below_setRow hLz.out (by omega)⟩
theorem sub_facts (x y : Nat) (hx : x < fP) (hy : y < fP) : (x < y → addN (subN x y) fP = (x + (fP - y)) % fP) ∧ (¬ x < y → subN x y = (x + (fP - y)) % fP) := by
  have h3 := P_lt
  unfold addN subN
  generalize (2 : Nat) ^ 256 = Q at *
  generalize fP = P at *
  constructor
  · intro h
    rw [Nat.mod_eq_of_lt (a := x + (P - y)) (by omega), Nat.mod_eq_of_lt (a := x + Q - y) (by omega), show x + Q - y + P = Q + (x + (P - y)) by omega, Nat.add_mod_left, Nat.mod_eq_of_lt (by omega)]
  · intro h
    rw [show x + (P - y) = P + (x - y) by omega, Nat.add_mod_left, Nat.mod_eq_of_lt (a := x - y) (by omega), show x + Q - y = Q + (x - y) by omega, Nat.add_mod_left, Nat.mod_eq_of_lt (by omega)]
/-- The difference. -/
def difP (a b : Nat) : Nat := (a % fP + (fP - b % fP)) % fP
theorem field_Sub (a b : Nat) (w : World) (ha : a < 2 ^ 256) (hb : b < 2 ^ 256) : Calls Tryd.prog 166 #[numV a, numV b] w fun e w' => e = .returned (numV (difP a b)) ∧ Below w.heap.size w w' := by
  have hLa := Lib.hid (fun V => field_Low a V ha)
  have hLb := Lib.hid (fun V => field_Low b V hb)
  have hAd := Lib.hid (fun V => limb_Sub (a % fP) (b % fP) V (Nat.lt_trans lt_P P_lt) (Nat.lt_trans lt_P P_lt))
  have hs : subN (a % fP) (b % fP) < 2 ^ 256 := Nat.mod_lt _ (by decide)
  have hA2 := Lib.hid (fun V => limb_Add (subN (a % fP) (b % fP)) fP V hs P_lt)
  have hF := sub_facts (a % fP) (b % fP) lt_P lt_P
  have hP := Lib.hid (fun V => field_P V)
  clear ha hb hs
  unfold difP
  obtain ⟨r, hr⟩ : ∃ r, (a % fP + (fP - b % fP)) % fP = r := ⟨_, rfl⟩
  rw [hr] at hF ⊢
  clear hr
  have hlt : ∀ x y, lessN x y = if x < y then 1 else 0 := fun _ _ => rfl
  obtain ⟨la, hla⟩ : ∃ la, a % fP = la := ⟨_, rfl⟩
  obtain ⟨lb, hlb⟩ : ∃ lb, b % fP = lb := ⟨_, rfl⟩
  rw [hla] at hLa
  rw [hlb] at hLb
  rw [hla, hlb] at hAd hA2 hF
  clear hla hlb
  have ho := hlt la lb
  obtain ⟨o, ho'⟩ : ∃ o, lessN la lb = o := ⟨_, rfl⟩
  rw [ho'] at hAd ho
  clear ho' hlt
  obtain ⟨s, hs⟩ : ∃ s, subN la lb = s := ⟨_, rfl⟩
  rw [hs] at hAd hA2 hF
  obtain ⟨p, hp⟩ : ∃ p, overN s fP = p := ⟨_, rfl⟩
  rw [hp] at hA2
  replace hF := Lib.hid hF
  replace ho := Lib.hid ho
  clear hs hp
  unfold numV at hLa hLb hAd hA2 hP
  obtain ⟨XP, hXP⟩ : ∃ X, arrK .u64 4 (wd fP) = X := ⟨_, rfl⟩
  rw [hXP] at hP hA2
  clear hXP
  have hcs := arrK_cells .u64 4 (wd s)
  have hcr := arrK_cells .u64 4 (wd r)
  unfold numV
  have hcz := arrK_cells .u64 4 (wd 0)
  have hL0 : Below w.heap.size w (((w.alloc (Obj.cells (arrK .u64 4 (wd a)) 41)).alloc (Obj.cells (arrK .u64 4 (wd b)) 41)).alloc (Obj.cells (arrK .u64 4 (wd 0)) 41)) := by go_grown
  have hA0 : At (((w.alloc (Obj.cells (arrK .u64 4 (wd a)) 41)).alloc (Obj.cells (arrK .u64 4 (wd b)) 41)).alloc (Obj.cells (arrK .u64 4 (wd 0)) 41)) (w.heap.size) .u64 4 (wd a) := (((At.new _ (by simp))).old _).old _
  have hB0 : At (((w.alloc (Obj.cells (arrK .u64 4 (wd a)) 41)).alloc (Obj.cells (arrK .u64 4 (wd b)) 41)).alloc (Obj.cells (arrK .u64 4 (wd 0)) 41)) (w.heap.size + 1) .u64 4 (wd b) := ((At.new _ (by simp))).old _
  have hR0 : Row (((w.alloc (Obj.cells (arrK .u64 4 (wd a)) 41)).alloc (Obj.cells (arrK .u64 4 (wd b)) 41)).alloc (Obj.cells (arrK .u64 4 (wd 0)) 41)) (w.heap.size + 1 + 1) 4 := (At.new (k := .u64) (f := wd 0) _ (by simp)).row
  have hL := Lib.hid hL0
  have hR := Lib.hid hR0
  have hA := Lib.hid hA0
  have hB := Lib.hid hB0
  clear hL0 hR0 hA0 hB0
  go_enter Tryd.func166, Tryd.ntmps166
  go_upto_region 1 with (fail)
  generalize (((w.alloc (Obj.cells (arrK .u64 4 (wd a)) 41)).alloc (Obj.cells (arrK .u64 4 (wd b)) 41)).alloc (Obj.cells (arrK .u64 4 (wd 0)) 41)) = W0 at *
  generalize ha0 : Act.mk _ _ = a0
  have e2 : a0.tmps[2]?.getD undef = .pointer (some ⟨w.heap.size, 0, none⟩) := by rw [← ha0]; rfl
  have e3 : a0.tmps[3]?.getD undef = .pointer (some ⟨w.heap.size + 1, 0, none⟩) := by rw [← ha0]; rfl
  have hz0 : a0.tmps.size = 24 := by rw [← ha0]; rfl
  have hha0 := Lib.hid ha0
  clear ha0
  refine wp_region_fresh ⟨fun jx_ => match jx_ with | 0 => some (.agg (arrK .u64 4 (wd a))) | 1 => some (.agg (arrK .u64 4 (wd la))) | 2 => some (.agg (arrK .u64 4 (wd b))) | 3 => some (.agg (arrK .u64 4 (wd lb))) | 4 => some (.tuple #[.agg (arrK .u64 4 (wd s)), .int .u64 (o : Nat)]) | 5 => some (.tuple #[.agg (arrK .u64 4 (wd s)), .int .u64 (o : Nat)]) | 6 => some (.agg (arrK .u64 4 (wd s))) | 7 => some (.int .u64 (o : Nat)) | 10 => some (.int .u64 (o : Nat)) | _ => none, fun jx_ => match jx_ with | 8 => some 4 | _ => none, fun jx_ => match jx_ with | 9 => some 8 | _ => none, fun jx_ => match jx_ with | 9 => arrK .u64 4 (wd s) | _ => #[]⟩ (by kernel_rfl) (by kernel_rfl) (by kernel_rfl) (slotsOk_of hz0 (by kernel_rfl)) rfl ⟨?_, ?_, ?_, ?_, ?_, ?_, ?_, ?_, ?_, ?_, ?_, trivial⟩ ?_
  · refine fstep_val rfl rfl (calm_step rfl fun aa ω κ hb hu hc hK => ?_)
    have h2 : aa.tmps[2]?.getD undef = .pointer (some ⟨w.heap.size, 0, none⟩) := (hu 2 rfl).trans e2
    have hk := Lib.hid (fun w1 (h : Below ω.heap.size ω w1) => hK (.agg (arrK .u64 4 (wd a))) w1 rfl h)
    clear hK hu hc
    have hr1 := (hA.out.step hb).row
    have hr2 := (hA.out.step hb).eq
    go_simp
    exact hk.out _ (Below.refl _ _)
  · refine fstep_val rfl rfl (calm_step rfl fun aa ω κ hb hu hc hK => ?_)
    have h8 : aa.tmps[8]?.getD undef = .agg (arrK .u64 4 (wd a)) := hc 0 8 rfl rfl
    have hk := Lib.hid (fun w1 (h : Below ω.heap.size ω w1) => hK (.agg (arrK .u64 4 (wd la))) w1 rfl h)
    clear hK hu hc
    go_simp
    go_at_call 164
    refine (hLa.out _).mono ?_
    rintro e w1 ⟨rfl, hb1⟩
    exact hk.out _ hb1
  · refine fstep_val rfl rfl (calm_step rfl fun aa ω κ hb hu hc hK => ?_)
    have h3 : aa.tmps[3]?.getD undef = .pointer (some ⟨w.heap.size + 1, 0, none⟩) := (hu 3 rfl).trans e3
    have hk := Lib.hid (fun w1 (h : Below ω.heap.size ω w1) => hK (.agg (arrK .u64 4 (wd b))) w1 rfl h)
    clear hK hu hc
    have hr1 := (hB.out.step hb).row
    have hr2 := (hB.out.step hb).eq
    go_simp
    exact hk.out _ (Below.refl _ _)
  · refine fstep_val rfl rfl (calm_step rfl fun aa ω κ hb hu hc hK => ?_)
    have h10 : aa.tmps[10]?.getD undef = .agg (arrK .u64 4 (wd b)) := hc 2 10 rfl rfl
    have hk := Lib.hid (fun w1 (h : Below ω.heap.size ω w1) => hK (.agg (arrK .u64 4 (wd lb))) w1 rfl h)
    clear hK hu hc
    go_simp
    go_at_call 164
    refine (hLb.out _).mono ?_
    rintro e w1 ⟨rfl, hb1⟩
    exact hk.out _ hb1
  · refine fstep_val rfl rfl (calm_step rfl fun aa ω κ hb hu hc hK => ?_)
    have h9 : aa.tmps[9]?.getD undef = .agg (arrK .u64 4 (wd la)) := hc 1 9 rfl rfl
    have h11 : aa.tmps[11]?.getD undef = .agg (arrK .u64 4 (wd lb)) := hc 3 11 rfl rfl
    have hk := Lib.hid (fun w1 (h : Below ω.heap.size ω w1) => hK (.tuple #[.agg (arrK .u64 4 (wd s)), .int .u64 (o : Nat)]) w1 rfl h)
    clear hK hu hc
    go_simp
    go_at_call 38
    refine (hAd.out _).mono ?_
    rintro e w1 ⟨rfl, hb1⟩
    exact hk.out _ hb1
  · refine fstep_val rfl rfl (calm_step rfl fun aa ω κ hb hu hc hK => ?_)
    have h12 : aa.tmps[12]?.getD undef = .tuple #[.agg (arrK .u64 4 (wd s)), .int .u64 (o : Nat)] := hc 4 12 rfl rfl
    have hk := Lib.hid (fun w1 (h : Below ω.heap.size ω w1) => hK (.tuple #[.agg (arrK .u64 4 (wd s)), .int .u64 (o : Nat)]) w1 rfl h)
    clear hK hu hc
    go_simp
    exact hk.out _ (Below.refl _ _)
  · refine fstep_val rfl rfl (calm_step rfl fun aa ω κ hb hu hc hK => ?_)
    have h7 : aa.tmps[7]?.getD undef = .tuple #[.agg (arrK .u64 4 (wd s)), .int .u64 (o : Nat)] := hc 5 7 rfl rfl
    have hk := Lib.hid (fun w1 (h : Below ω.heap.size ω w1) => hK (.agg (arrK .u64 4 (wd s))) w1 rfl h)
    clear hK hu hc
    go_simp
    exact hk.out _ (Below.refl _ _)
  · refine fstep_val rfl rfl (calm_step rfl fun aa ω κ hb hu hc hK => ?_)
    have h7 : aa.tmps[7]?.getD undef = .tuple #[.agg (arrK .u64 4 (wd s)), .int .u64 (o : Nat)] := hc 5 7 rfl rfl
    have hk := Lib.hid (fun w1 (h : Below ω.heap.size ω w1) => hK (.int .u64 (o : Nat)) w1 rfl h)
    clear hK hu hc
    go_simp
    exact hk.out _ (Below.refl _ _)
  · refine fstep_al (n := 4) rfl rfl fun aa ω κ hK => ?_
    have hk := Lib.hid hK
    clear hK
    go_simp
    exact hk.out _ _ hcz
  · refine fstep_st (j := 8) (n := 4) (d := 5) rfl rfl rfl rfl rfl hcs.1 rfl rfl fun aa ω κ g hb hu hc hp hr hK => ?_
    have h13 : aa.tmps[13]?.getD undef = .agg (arrK .u64 4 (wd s)) := hc 6 13 rfl rfl
    have hk := Lib.hid hK
    clear hK hu hc
    have hcc := hcs
    go_simp
    exact hk.out undef
  · refine fstep_val rfl rfl (calm_step rfl fun aa ω κ hb hu hc hK => ?_)
    have h14 : aa.tmps[14]?.getD undef = .int .u64 (o : Nat) := hc 7 14 rfl rfl
    have hk := Lib.hid (fun w1 (h : Below ω.heap.size ω w1) => hK (.int .u64 (o : Nat)) w1 rfl h)
    clear hK hu hc
    go_simp
    exact hk.out _ (Below.refl _ _)
  · intro a1 w1 G I
    have ha0 := hha0.out
    subst ha0
    have he := act_patch (n := 24) [false, false, false, false, false, true, true, true, true, true, true, true, true, true, true, false, false, false, false, false, false, false, false, false] rfl (by kernel_rfl) I.un I.sz I.df
    simp only [patch, cond_true, cond_false, Nat.reduceAdd] at he
    have hal5 := I.al 8 5 4 rfl rfl rfl
    have hR2 := Lib.hid (row_below hR.out I.bel hR.out.lt)
    have hL2 := Lib.hid (below_step I.bel hL.out (Nat.le_refl _))
    have hX := Lib.hid (show At w1 (G 8) .u64 4 (wd s) from ⟨(I.blk 8 4 rfl rfl).2, (I.row 9 8 rfl rfl).2.2⟩)
    have hG : w.heap.size + 1 + 1 < G 8 := Nat.lt_of_lt_of_le hR.out.lt (I.blk 8 4 rfl rfl).1
    have h6 : a1.tmps[6]?.getD undef = .int .u64 (o : Nat) := I.val 10 6 rfl rfl
    clear hA hB hR hL hLa hLb hAd
    clear I hz0 hha0 e2 e3
    rw [he]
    clear he
    rw [hal5]
    clear hal5
    generalize a1.tmps[6]?.getD undef = x6 at *
    generalize a1.tmps[7]?.getD undef = x7 at *
    generalize a1.tmps[8]?.getD undef = x8 at *
    generalize a1.tmps[9]?.getD undef = x9 at *
    generalize a1.tmps[10]?.getD undef = x10 at *
    generalize a1.tmps[11]?.getD undef = x11 at *
    generalize a1.tmps[12]?.getD undef = x12 at *
    generalize a1.tmps[13]?.getD undef = x13 at *
    generalize a1.tmps[14]?.getD undef = x14 at *
    by_cases hlt : la < lb
    · have ho1 : o = 1 := by rw [ho.out, if_pos hlt]
      replace hA2 := Lib.hid (hF.out.1 hlt ▸ hA2.out)
      subst ho1
      have hx6 : x6 = .int .u64 (1 : Int) := h6
      subst hx6
      have hXR := Lib.hid hX.out.row
      clear hF ho hlt
      go_upto_region 3 with (fail)
      generalize ha0 : Act.mk _ _ = a0
      have e5 : a0.tmps[5]?.getD undef = .pointer (some ⟨G 8, 0, none⟩) := by rw [← ha0]; rfl
      have hz0 : a0.tmps.size = 24 := by rw [← ha0]; rfl
      have hha0 := Lib.hid ha0
      clear ha0
      refine wp_region_one (fun jx_ => match jx_ with | 0 => some (.agg (arrK .u64 4 (wd s))) | 1 => some (.agg XP) | 2 => some (.tuple #[.agg (arrK .u64 4 (wd r)), .int .u64 (p : Nat)]) | 3 => some (.tuple #[.agg (arrK .u64 4 (wd r)), .int .u64 (p : Nat)]) | 4 => some (.agg (arrK .u64 4 (wd r))) | 5 => some (.int .u64 (p : Nat)) | _ => none) 6 (G 8) 4 (arrK .u64 4 (wd r)) (by kernel_rfl) (by kernel_rfl) (by kernel_rfl) (slotsOk_of hz0 (by kernel_rfl)) (of_decide_eq_true (by kernel_rfl)) hXR.out ⟨?_, ?_, ?_, ?_, ?_, ?_, ?_, trivial⟩ ?_
      · refine one_before (by decide) (by kernel_rfl) (calm_step rfl fun aa ω κ hb hu hc hK => ?_)
        have h5 : aa.tmps[5]?.getD undef = .pointer (some ⟨G 8, 0, none⟩) := (hu 5 rfl).trans e5
        have hk := Lib.hid (fun w1 (h : Below ω.heap.size ω w1) => hK (.agg (arrK .u64 4 (wd s))) w1 rfl h)
        clear hK hu hc
        have hr1 := (hX.out.step hb).row
        have hr2 := (hX.out.step hb).eq
        go_simp
        exact hk.out _ (Below.refl _ _)
      · refine one_before (by decide) (by kernel_rfl) (calm_step rfl fun aa ω κ hb hu hc hK => ?_)
        have hk := Lib.hid (fun w1 (h : Below ω.heap.size ω w1) => hK (.agg XP) w1 rfl h)
        clear hK hu hc
        go_simp
        go_at_call 170
        refine (hP.out _).mono ?_
        rintro e w1 ⟨rfl, hb1⟩
        exact hk.out _ hb1
      · refine one_before (by decide) (by kernel_rfl) (calm_step rfl fun aa ω κ hb hu hc hK => ?_)
        have h18 : aa.tmps[18]?.getD undef = .agg (arrK .u64 4 (wd s)) := hc 0 18 rfl rfl
        have h19 : aa.tmps[19]?.getD undef = .agg XP := hc 1 19 rfl rfl
        have hk := Lib.hid (fun w1 (h : Below ω.heap.size ω w1) => hK (.tuple #[.agg (arrK .u64 4 (wd r)), .int .u64 (p : Nat)]) w1 rfl h)
        clear hK hu hc
        go_simp
        go_at_call 96
        refine (hA2.out _).mono ?_
        rintro e w1 ⟨rfl, hb1⟩
        exact hk.out _ hb1
      · refine one_before (by decide) (by kernel_rfl) (calm_step rfl fun aa ω κ hb hu hc hK => ?_)
        have h20 : aa.tmps[20]?.getD undef = .tuple #[.agg (arrK .u64 4 (wd r)), .int .u64 (p : Nat)] := hc 2 20 rfl rfl
        have hk := Lib.hid (fun w1 (h : Below ω.heap.size ω w1) => hK (.tuple #[.agg (arrK .u64 4 (wd r)), .int .u64 (p : Nat)]) w1 rfl h)
        clear hK hu hc
        go_simp
        exact hk.out _ (Below.refl _ _)
      · refine one_before (by decide) (by kernel_rfl) (calm_step rfl fun aa ω κ hb hu hc hK => ?_)
        have h17 : aa.tmps[17]?.getD undef = .tuple #[.agg (arrK .u64 4 (wd r)), .int .u64 (p : Nat)] := hc 3 17 rfl rfl
        have hk := Lib.hid (fun w1 (h : Below ω.heap.size ω w1) => hK (.agg (arrK .u64 4 (wd r))) w1 rfl h)
        clear hK hu hc
        go_simp
        exact hk.out _ (Below.refl _ _)
      · refine one_free (by decide) fun W_ => calm_step rfl fun aa ω κ hb hu hc hK => ?_
        have h17 : aa.tmps[17]?.getD undef = .tuple #[.agg (arrK .u64 4 (wd r)), .int .u64 (p : Nat)] := hc 3 17 rfl rfl
        have hk := Lib.hid (fun w1 (h : Below ω.heap.size ω w1) => hK (.int .u64 (p : Nat)) w1 rfl h)
        clear hK hu hc
        go_simp
        exact hk.out _ (Below.refl _ _)
      · refine one_q (one_write rfl rfl fun aa ω κ hb hu hc hr hK => ?_)
        have h5 : aa.tmps[5]?.getD undef = .pointer (some ⟨G 8, 0, none⟩) := (hu 5 rfl).trans e5
        have h21 : aa.tmps[21]?.getD undef = .agg (arrK .u64 4 (wd r)) := hc 4 21 rfl rfl
        have hk := Lib.hid hK
        clear hK hu hc
        have hcc := hcr
        go_simp
        exact hk.out undef
      · intro a1 w1 hb1 hu1 hsz1 hdf1 hv1
        have ha0 := hha0.out
        subst ha0
        have he := act_patch (n := 24) [false, false, false, false, false, false, false, false, false, false, false, false, false, false, false, false, false, true, true, true, true, true, true, false] rfl (by kernel_rfl) hu1 hsz1 hdf1
        simp only [patch, cond_true, cond_false, Nat.reduceAdd] at he
        have hRz := Lib.hid (row_below ((row_setRow_far (c' := arrK .u64 4 (wd r)) (show w.heap.size + 1 + 1 ≠ G 8 by omega)).2 hR2.out) hb1 hR2.out.lt)
        have hLz := Lib.hid (Below.trans (below_setRow (c := arrK .u64 4 (wd r)) hL2.out (by omega)) (hb1.mono hL2.out.size))
        have hXz := Lib.hid (At.below (At.put (k := .u64) (f := wd r) hX.out.row) hb1 hX.out.row.lt)
        clear hR2 hL2 hX hP hA2
        clear hb1 hu1 hsz1 hdf1 hv1 hz0 hha0 e5
        rw [he]
        clear he
        generalize a1.tmps[17]?.getD undef = x17 at *
        generalize a1.tmps[18]?.getD undef = x18 at *
        generalize a1.tmps[19]?.getD undef = x19 at *
        generalize a1.tmps[20]?.getD undef = x20 at *
        generalize a1.tmps[21]?.getD undef = x21 at *
        generalize a1.tmps[22]?.getD undef = x22 at *
        have hr1 := hXz.out.row
        have hr2 := hXz.out.eq
        have hr3 := hRz.out
        go_wp2_with fail
        exact ret_stored (p := 4) (ty := 41) (g := w.heap.size + 1 + 1) (n := 4) (c := arrK .u64 4 (wd r)) rfl Tryd.underlying41 rfl (by kernel_rfl) rfl hRz.out hcr.1 rfl ⟨rfl, below_setRow hLz.out (by omega)⟩
    · have ho1 : o = 0 := by rw [ho.out, if_neg hlt]
      have hs : s = r := hF.out.2 hlt
      subst ho1 hs
      have hx6 : x6 = .int .u64 (0 : Int) := h6
      subst hx6
      have hr1 := hX.out.row
      have hr2 := hX.out.eq
      have hr3 := hR2.out
      have hRz := hR2
      have hLz := hL2
      clear hF ho hlt hA2
      go_wp2_with fail
      exact ret_stored (p := 4) (ty := 41) (g := w.heap.size + 1 + 1) (n := 4) (c := arrK .u64 4 (wd s)) rfl Tryd.underlying41 rfl (by kernel_rfl) rfl hRz.out hcr.1 rfl ⟨rfl, below_setRow hLz.out (by omega)⟩
end Go.Proofs.YtgdiokklfihfoaaDoor
