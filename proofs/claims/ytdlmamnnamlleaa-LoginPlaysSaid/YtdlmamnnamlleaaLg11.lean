/- The law's function sits: kind 2 (a seat is closed). -/
import Derived.Test.YtdlmamnnamlleaaLg10
namespace Go.Proofs.Ytdlmamnnamlleaa
open Go.ChangeShapes Go.WideShapes Go.ChangeAt Go.RowKit
set_option maxHeartbeats 1000000
set_option maxRecDepth 100000

theorem flat_take (l : List (Int × Bool)) (i : Nat) : (l.flatMap seatC).take (i * 3) = (l.take i).flatMap seatC := by
  induction l generalizing i with
  | nil => simp
  | cons x r ih =>
    cases i with
    | zero => simp
    | succ i => rw [List.take_succ_cons, List.flatMap_cons, List.flatMap_cons, ← ih, show (i + 1) * 3 = i * 3 + 1 + 1 + 1 by omega]; rfl
theorem flat_drop (l : List (Int × Bool)) (i : Nat) : (l.flatMap seatC).drop (i * 3) = (l.drop i).flatMap seatC := by
  induction l generalizing i with
  | nil => simp
  | cons x r ih =>
    cases i with
    | zero => simp
    | succ i => rw [List.drop_succ_cons, List.flatMap_cons, ← ih, show (i + 1) * 3 = i * 3 + 1 + 1 + 1 by omega]; rfl
theorem seat_one (l : List (Int × Bool)) : ∀ u ∈ l.flatMap seatC, u.oneCell' = true := by
  intro u hu
  obtain ⟨p, -, hp⟩ := List.mem_flatMap.1 hu
  simp [seatC] at hp
  rcases hp with rfl | rfl | rfl <;> rfl
theorem own_cap {w : World} {B n c size : Nat} {A : Option Addr} {e : TypeId} {xs : List Value} (h : w.ownsRow B e size (.slice A n c) n xs) : n ≤ c := by
  obtain ⟨-, ⟨h1, h2⟩ | ⟨g, cap, cur, h1, -, -, h2, -⟩⟩ := h
  · omega
  · injection h1 with h3 h4 h5; omega
theorem desk_blt {w : World} {g bm : Nat} {most last who : Int} {l : List (Int × Bool)} (h : DeskAt w g bm most last who l) : bm < w.heap.size := by
  obtain ⟨es, clock, h2, -⟩ := h.mp.own
  exact (Array.getElem?_eq_some_iff.1 h2).1
theorem grown_blk {W W' : World} {r : Option Nat} {i : Nat} (hg : W.grownBy W' r) (hi : i < W.heap.size) (hne : ∀ b, r = some b → b ≠ i) : W'.heap[i]? = W.heap[i]? := hg.block i hi (by
  cases r with
  | none => simp
  | some b => have := hne b rfl; simp; omega)
theorem del_len (l : List (Int × Bool)) (k : Int) : (delS l k).length ≤ l.length := List.length_filter_le _ _
theorem del_ids {l : List (Int × Bool)} {k last : Int} (h : ∀ p ∈ l, 1 ≤ p.1 ∧ p.1 ≤ last) : ∀ p ∈ delS l k, 1 ≤ p.1 ∧ p.1 ≤ last := fun p hp => h p (List.mem_filter.1 hp).1
theorem del_atP {l : List (Int × Bool)} {x : Int} : ∀ {i : Nat} (hi : i < l.length), (l.Pairwise fun p q => p.1 < q.1) → l[i].1 = x → delS l x = l.take i ++ l.drop (i + 1) := by
  induction l with
  | nil => intro i hi; simp at hi
  | cons p r ih =>
    intro i hi ha hx
    rw [List.pairwise_cons] at ha
    cases i with
    | zero =>
      have hp : p.1 = x := hx
      have : r.filter (fun q => q.1 != x) = r := List.filter_eq_self.2 fun q hq => by have := ha.1 q hq; rw [bne_iff_ne]; omega
      simp [delS, hp, this]
    | succ i =>
      have hi2 : i < r.length := by simpa using hi
      have hx2 : r[i].1 = x := hx
      have := ha.1 r[i] (List.getElem_mem hi2)
      have e := ih hi2 ha.2 hx2
      unfold delS at e ⊢
      rw [List.filter_cons_of_pos (by rw [bne_iff_ne]; omega), e]
      rfl
theorem del_at {l : List (Int × Bool)} {x : Int} {i : Nat} (ha : (sesM l).Pairwise fun p q => p.1 < q.1) (hi : i < l.length) (hx : l[i].1 = x) : delS l x = l.take i ++ l.drop (i + 1) := del_atP hi (asc_ses ha) hx
def SRel.ow (N n : Nat) (ls : List (Int × Bool)) : SRel := ⟨fun v w => ∃ A c, v = .slice A n c ∧ w.ownsRow N 85 3 (.slice A n c) n (ls.flatMap seatC),
  fun _ _ _ hb ⟨A, c, h1, h2⟩ => ⟨A, c, h1, own_belowI h2 hb⟩⟩
theorem SRel.ow_of {N n : Nat} {ls : List (Int × Bool)} {v : Value} {w : World} (_ : 0 ≤ n) (h : w.ownsRow N 85 3 v (0 + n) ([] ++ ls.flatMap seatC)) : (SRel.ow N n ls).p v w := by
  rw [Nat.zero_add, List.nil_append] at h
  obtain ⟨A, c, rfl⟩ := own_formI h
  exact ⟨A, c, rfl, h⟩
theorem seats_del {w : World} {B N i m : Nat} {v : Value} {l : List (Int × Bool)} {x : Int} (hd : delS l x = l.take i ++ l.drop (i + 1)) (hm : (l.drop (i + 1)).length = m) (hi : i ≤ l.length) (hB : B ≤ N)
    (h : w.ownsRow N 85 3 v (i + m) ((l.take i).flatMap seatC ++ (l.drop (i + 1)).flatMap seatC)) : w.ownsRow B 85 3 v (delS l x).length ((delS l x).flatMap seatC) := by
  rw [hd, List.flatMap_append, List.length_append, hm, List.length_take, Nat.min_eq_left hi]
  obtain ⟨h1, h2⟩ := h
  refine ⟨h1, h2.imp id ?_⟩
  rintro ⟨g, cap, cur, rfl, hB', rest⟩
  exact ⟨g, cap, cur, rfl, Nat.le_trans hB hB', rest⟩
set_option maxHeartbeats 8000000 in
theorem sits_2 (B g bm gt : Nat) (most last who id n : Int) (l : List (Int × Bool)) (v : Value) (w : World) (h : SitAt w B g bm gt most last who l v) (_hid : (Lit.int .i64 id).wf = true) (hll : l.length ≤ 1000) (_hla : last < 1000000) :
    Calls Try.prog 38 #[.pointer (some ⟨g, 0, none⟩), .pointer (some ⟨gt, 0, none⟩), .int .i64 most, .agg #[.int .i64 2, .int .i64 id, .int .i64 n]] w (SitsR B g bm gt most last l w) := by
  obtain ⟨A, c, hv⟩ := own_formI h.own
  subst hv
  have hb0 := below_alloc' w (.cells #[.int .i64 2, .int .i64 id, .int .i64 n] 81)
  have h0 := h.step hb0
  have hB0 : B ≤ w.heap.size := Nat.le_trans h.b3 (Nat.le_of_lt h.tok.lt)
  have hx0 : (w.alloc (.cells #[.int .i64 2, .int .i64 id, .int .i64 n] 81)).cell? ⟨w.heap.size, 0, none⟩ = some (.int .i64 2) := by rw [World.cell?_alloc_at _ _ _ _ rfl]; rfl
  have hx1 : (w.alloc (.cells #[.int .i64 2, .int .i64 id, .int .i64 n] 81)).cell? ⟨w.heap.size, 1, none⟩ = some (.int .i64 id) := by rw [World.cell?_alloc_at _ _ _ _ rfl]; rfl
  have hx2 : (w.alloc (.cells #[.int .i64 2, .int .i64 id, .int .i64 n] 81)).cell? ⟨w.heap.size, 2, none⟩ = some (.int .i64 n) := by rw [World.cell?_alloc_at _ _ _ _ rfl]; rfl
  have hg7 : w.heap.size < (w.alloc (.cells #[.int .i64 2, .int .i64 id, .int .i64 n] 81)).heap.size := by simp
  have k1 := h0.tok.c1
  have klt := h.tok.lt
  have hrd := Rd.of_own h0.own
  have hspec := Lib.hid (at_spec (asc_ses h.desk.mp.asc) id)
  have hal := Lib.hid (alone_spec l)
  have h0H := Lib.hid h0
  have n7 : gt ≠ w.heap.size := by omega
  have n8 : g ≠ w.heap.size := by have := h.desk.lt; omega
  have n9 : bm ≠ w.heap.size := desk_bm h.desk
  clear h h0
  go_enter Try.func38, Try.ntmps38
  go_wp2
  refine st_loop _ A l c w.heap.size id _ _ _ _ _ _ _ _ _ _ _ _ _ _ _ _ _ _ _ _ _ _ _ _ _ _ _ _ _ _ _ _ _ _ _ _ _ _ _ _ _ _ _ _ _ _ _ _ _ _ _ _ _ _ _ _ _ _ _ _ _ _ _ _ _ _ _ _ _ _ _ _ _ _ _ _ _ _ _ _ _ _ _ _ _ _ _ _ _ _ _ _ _ _ _ _ _ _ _ _ _ _ _ _ _ _ _ _ _ _ _ _ _ _ _ _ _ _ _ _ _ _ _ _ _ _ _ _ _ _ _ _ _ _ _ _ _ _ _ _ _ _ _ _ _ _ _ _ _ _ _ _ _ _ _ _ _ _ _ _ _ _ _ _ _ _ _ _ _ _ _ _ _ _ _ _ _ _ _ _ _ _ _ _ _ _ _ _ _ _ _ _ _ _ _ _ _ _ _ _ _ _ _ _ _ _ _ _ _ _ _ _ _ _ _ _ _ _ _ _ _ _ _ _ _ _ _ _ _ _ _ _ _ _ _ _ _ _ _ _ _ _ _ _ _ _ _ _ _ _ _ _ _ _ _ _ _ _ _ _ _ _ _ _ _ _ _ _ _ _ _ _ _ _ _ _ _ hx1 hg7 hrd (by omega) ?_
  intro t11 t12 t25 t26 t27 t28 t29 t30 t31 t32 t33 t34 t35 t36 t37 t38 t39 t40 t41 w2 hb2
  have y0 := (hb2.cell (p := ⟨w.heap.size, 0, none⟩) hg7).trans hx0
  have y1 := (hb2.cell (p := ⟨w.heap.size, 1, none⟩) hg7).trans hx1
  have y2 := (hb2.cell (p := ⟨w.heap.size, 2, none⟩) hg7).trans hx2
  have h2 := h0H.out.step hb2
  have hL2 := below_step hb2 (hb0.mono hB0) hB0
  have hg72 : w.heap.size < w2.heap.size := Nat.lt_of_lt_of_le hg7 hb2.size
  rw [hal.out]
  clear hx0 hx1 hx2 k1 hrd hb0 hb2 h0H hg7 klt
  generalize hG7 : w.heap.size = g7 at *
  obtain ⟨z0, z1, z2, zf, zlt⟩ := h2.tok
  have h2H := Lib.hid h2
  rcases hspec.out with ⟨e1, e2⟩ | ⟨i, hi, e1, e2, e3⟩
  · rw [e1]
    have hs0 : (seat l id).isSome = false := by rw [e2]; rfl
    have hz : Hid (closeZ l id = 6) := by show _ = _; unfold closeZ; rw [if_pos hs0]
    have hdn := Lib.hid (del_none l id hs0)
    have hlo := Lib.hid (desk_Close g bm most last who id l _ h2.desk _hid)
    unfold CloseR at hlo
    rw [hz.out, hdn.out, if_neg (fun e => by rw [hs0] at e; cases e.1)] at hlo
    clear e1 e2 h2 hs0
    go_wp2_with fail
    refine hlo.out.mono ?_
    rintro e w4 ⟨rfl, hd4, hb4⟩
    have hL4 := hb4.below hL2 h2H.out.b1 h2H.out.b2 (Nat.le_trans hB0 (by omega))
    have hs4 := h2H.out.but hb4 hd4
    go_wp2
    go_ret
    exact ⟨ret_bool (by simp), last, who, l, _, hs4, by omega, by omega, hL4⟩
  · rw [e1]
    have hcap := own_cap h2.own
    have hdl := Lib.hid (del_at h2.desk.mp.asc hi e3)
    have hso := Lib.hid (show (seat l id).isSome = true from by rw [e2]; rfl)
    have hcz : Hid (closeZ l id = 0) := by show _ = _; unfold closeZ; rw [if_neg (by rw [e2]; simp)]
    have hto := Lib.hid (fun W => sl_to (P := Try.prog) SSeat A l.length c i (i : Int) (by omega) (by omega) (by simp) W)
    obtain ⟨A1, hfr, hrd⟩ := sl_from (P := Try.prog) SSeat A l.length c (l.length - (i + 1)) ((i : Int) + 1) (by omega) (by omega) (by omega) hcap
    rw [show ((i : Int) + 1).toNat = i + 1 from by omega] at hfr hrd
    have hR5 := Lib.hid (fun ω (hb : Below w2.heap.size w2 ω) => (show Rd ω ω.heap.size A ((l.take i).flatMap seatC) ∧ Rd ω ω.heap.size A1 ((l.drop (i + 1)).flatMap seatC) from by
      have hr0 := Rd.of_own (own_belowI h2.own hb)
      exact ⟨by rw [← flat_take]; exact hr0.take, by rw [← flat_drop]; exact hrd ω _ _ (flat_seat_len l) hr0⟩))
    clear hrd hcap
    obtain ⟨m, hm⟩ : ∃ m, l.length - (i + 1) = m := ⟨_, rfl⟩
    obtain ⟨c1, hc1⟩ : ∃ c1, c - (i + 1) = c1 := ⟨_, rfl⟩
    rw [hm, hc1] at hfr
    have hfr2 := Lib.hid hfr
    clear hc1 hfr
    have hm5 := Lib.hid (show (l.drop (i + 1)).length = m from by rw [List.length_drop]; exact hm)
    have hi5 := Lib.hid (show i < l.length ∧ i + m < 1000 from by omega)
    have hwi : Hid (IntKind.i64.wrap ((i : Int) + 1) = (i : Int) + 1) := by show _ = _; rw [IntKind.wrap_i64]; omega
    have hT5 := Lib.hid h2.tok
    have hD5 := Lib.hid h2.desk
    have hO5 := Lib.hid h2.own
    have hY5 := Lib.hid y1
    have hL5 := Lib.hid hL2
    have hG5 := Lib.hid (show (B ≤ g ∧ B ≤ bm ∧ B ≤ gt ∧ B ≤ w2.heap.size) ∧ g < w2.heap.size ∧ bm < w2.heap.size ∧ gt < w2.heap.size ∧ g7 < w2.heap.size from ⟨⟨h2.b1, h2.b2, h2.b3, by omega⟩, h2.desk.lt, desk_blt h2.desk, h2.tok.lt, hg72⟩)
    clear h2 e1 e2 e3 hspec hm
    by_cases hz' : (delS l id).length = 0
    · have hz := Lib.hid hz'
      clear hz'
      go_upto_region 24 with (fail)
      generalize ha0 : Act.mk _ _ = a0
      have e1 : a0.tmps[1]?.getD undef = .pointer (some ⟨gt, 0, none⟩) := by rw [← ha0]; rfl
      have e9 : a0.tmps[9]?.getD undef = .int .i64 (i : Int) := by rw [← ha0]; rfl
      have hz0 : a0.tmps.size = 282 := by rw [← ha0]; rfl
      have hha0 := Lib.hid ha0
      clear ha0
      refine wp_region_write (fun jx_ => match jx_ with | 0 => some (.pointer (some ⟨gt, 0, none⟩)) | 1 => some (.pointer (some ⟨gt, 0, none⟩)) | 2 => some (.pointer (some ⟨gt, 0, none⟩)) | 3 => some (.pointer (some ⟨gt, 71, none⟩)) | 4 => some (.slice A l.length c) | 5 => some (.int .i64 (i : Int)) | 6 => some (.slice A i c) | 8 => some (.pointer (some ⟨gt, 0, none⟩)) | 9 => some (.pointer (some ⟨gt, 0, none⟩)) | 10 => some (.pointer (some ⟨gt, 71, none⟩)) | 11 => some (.slice A l.length c) | 12 => some (.int .i64 (i : Int)) | 13 => some (.int .i64 ((i : Int) + 1)) | 14 => some (.slice A1 m c1) | 16 => some (.pointer (some ⟨gt, 0, none⟩)) | 17 => some (.pointer (some ⟨gt, 71, none⟩)) | _ => none) (fun jx_ => match jx_ with | 7 => SRel.ow w2.heap.size i (l.take i) | 15 => SRel.any | 18 => SRel.any | _ => SRel.any) 15 18 (fun v9 w9 => StPhi w B g bm gt most last who l last (.slice A l.length c) (delS l id) v9 w9 ∧ w9.cell? ⟨g7, 1, none⟩ = some (.int .i64 id) ∧ g7 < w9.heap.size) (by kernel_rfl) (by kernel_rfl) (by kernel_rfl) (slotsOk_of hz0 (by kernel_rfl)) (by kernel_rfl) (by decide) rfl (of_decide_eq_true (by kernel_rfl)) (of_decide_eq_true (by kernel_rfl)) ⟨?_, ?_, ?_, ?_, ?_, ?_, ?_, ?_, ?_, ?_, ?_, ?_, ?_, ?_, ?_, ?_, ?_, ?_, ?_, trivial⟩
      · rw [if_neg (by decide), if_neg (by decide), if_neg (by rw [show pathB _ _ _ _ = false from by kernel_rfl]; decide)]
        refine pure_of rfl rfl fun a ω κ hu hc hK => ?_
        have h1 : a.tmps[1]?.getD undef = .pointer (some ⟨gt, 0, none⟩) := (hu 1 rfl).trans e1
        have hk := Lib.hid hK
        clear hK hu hc
        go_simp
        exact hk.out
      · rw [if_neg (by decide), if_neg (by decide), if_pos (by kernel_rfl)]
        refine calmT_step rfl fun a ω κ hb hu hc hK => ?_
        have h1 : a.tmps[1]?.getD undef = .pointer (some ⟨gt, 0, none⟩) := (hu 1 rfl).trans e1
        have hk := Lib.hid (fun w1 (h : Below ω.heap.size ω w1) => hK (.pointer (some ⟨gt, 0, none⟩)) w1 rfl h)
        clear hK hu hc
        go_simp
        exact hk.out _ (Below.refl _ _)
      · rw [if_neg (by decide), if_neg (by decide), if_pos (by kernel_rfl)]
        refine calmT_step rfl fun a ω κ hb hu hc hK => ?_
        have h124 : a.tmps[124]?.getD undef = .pointer (some ⟨gt, 0, none⟩) := hc 1 124 rfl rfl
        have hk := Lib.hid (fun w1 (h : Below ω.heap.size ω w1) => hK (.pointer (some ⟨gt, 0, none⟩)) w1 rfl h)
        clear hK hu hc
        go_simp
        exact hk.out _ (Below.refl _ _)
      · rw [if_neg (by decide), if_neg (by decide), if_pos (by kernel_rfl)]
        refine calmT_step rfl fun a ω κ hb hu hc hK => ?_
        have h125 : a.tmps[125]?.getD undef = .pointer (some ⟨gt, 0, none⟩) := hc 2 125 rfl rfl
        have hk := Lib.hid (fun w1 (h : Below ω.heap.size ω w1) => hK (.pointer (some ⟨gt, 71, none⟩)) w1 rfl h)
        clear hK hu hc
        go_simp
        exact hk.out _ (Below.refl _ _)
      · rw [if_neg (by decide), if_neg (by decide), if_pos (by kernel_rfl)]
        refine calmT_step rfl fun a ω κ hb hu hc hK => ?_
        have h126 : a.tmps[126]?.getD undef = .pointer (some ⟨gt, 71, none⟩) := hc 3 126 rfl rfl
        have hk := Lib.hid (fun w1 (h : Below ω.heap.size ω w1) => hK (.slice A l.length c) w1 rfl h)
        clear hK hu hc
        obtain ⟨m0, m1, m2, mf, mlt⟩ := (hT5.out.step hb)
        go_simp
        exact hk.out _ (Below.refl _ _)
      · rw [if_neg (by decide), if_neg (by decide), if_pos (by kernel_rfl)]
        refine calmT_step rfl fun a ω κ hb hu hc hK => ?_
        have h9 : a.tmps[9]?.getD undef = .int .i64 (i : Int) := (hu 9 rfl).trans e9
        have hk := Lib.hid (fun w1 (h : Below ω.heap.size ω w1) => hK (.int .i64 (i : Int)) w1 rfl h)
        clear hK hu hc
        go_simp
        exact hk.out _ (Below.refl _ _)
      · rw [if_neg (by decide), if_neg (by decide), if_pos (by kernel_rfl)]
        refine calmT_step rfl fun a ω κ hb hu hc hK => ?_
        have h127 : a.tmps[127]?.getD undef = .slice A l.length c := hc 4 127 rfl rfl
        have h128 : a.tmps[128]?.getD undef = .int .i64 (i : Int) := hc 5 128 rfl rfl
        have hk := Lib.hid (fun w1 (h : Below ω.heap.size ω w1) => hK (.slice A i c) w1 rfl h)
        clear hK hu hc
        have sto := hto.out ω
        go_simp
        exact hk.out _ (Below.refl _ _)
      · rw [if_neg (by decide), if_neg (by decide), if_pos (by kernel_rfl)]
        refine calmT_step rfl fun a ω κ hb hu hc hK => ?_
        have h129 : a.tmps[129]?.getD undef = .slice A i c := hc 6 129 rfl rfl
        have hk := Lib.hid (fun v w1 (hv : (SRel.ow w2.heap.size i (l.take i)).p v w1) (h : Below ω.heap.size ω w1) => hK v w1 hv h)
        clear hK hu hc
        refine wp_app (.const (.slice none 0 0)) (.tmp 129) 76 rfl SSeat rfl (World.ownsRow_nil _ w2.heap.size _ _) (eval_tmpS h129) (m := i) (news := (l.take i).flatMap seatC) (by rw [flat_seat_len]; simp; omega) (hR5.out ω hb).1 (seat_one _) (by unfold maxLen; omega) (by omega) hb.size fun v' w' hO' hg' hat' => ?_
        exact hk.out _ _ (SRel.ow_of (by omega) hO') ((Below.refl _ _).grown hg' (Nat.le_refl _) (fun g e => by cases e))
      · rw [if_neg (by decide), if_neg (by decide), if_pos (by kernel_rfl)]
        refine calmT_step rfl fun a ω κ hb hu hc hK => ?_
        have h1 : a.tmps[1]?.getD undef = .pointer (some ⟨gt, 0, none⟩) := (hu 1 rfl).trans e1
        have hk := Lib.hid (fun w1 (h : Below ω.heap.size ω w1) => hK (.pointer (some ⟨gt, 0, none⟩)) w1 rfl h)
        clear hK hu hc
        go_simp
        exact hk.out _ (Below.refl _ _)
      · rw [if_neg (by decide), if_neg (by decide), if_pos (by kernel_rfl)]
        refine calmT_step rfl fun a ω κ hb hu hc hK => ?_
        have h131 : a.tmps[131]?.getD undef = .pointer (some ⟨gt, 0, none⟩) := hc 8 131 rfl rfl
        have hk := Lib.hid (fun w1 (h : Below ω.heap.size ω w1) => hK (.pointer (some ⟨gt, 0, none⟩)) w1 rfl h)
        clear hK hu hc
        go_simp
        exact hk.out _ (Below.refl _ _)
      · rw [if_neg (by decide), if_neg (by decide), if_pos (by kernel_rfl)]
        refine calmT_step rfl fun a ω κ hb hu hc hK => ?_
        have h132 : a.tmps[132]?.getD undef = .pointer (some ⟨gt, 0, none⟩) := hc 9 132 rfl rfl
        have hk := Lib.hid (fun w1 (h : Below ω.heap.size ω w1) => hK (.pointer (some ⟨gt, 71, none⟩)) w1 rfl h)
        clear hK hu hc
        go_simp
        exact hk.out _ (Below.refl _ _)
      · rw [if_neg (by decide), if_neg (by decide), if_pos (by kernel_rfl)]
        refine calmT_step rfl fun a ω κ hb hu hc hK => ?_
        have h133 : a.tmps[133]?.getD undef = .pointer (some ⟨gt, 71, none⟩) := hc 10 133 rfl rfl
        have hk := Lib.hid (fun w1 (h : Below ω.heap.size ω w1) => hK (.slice A l.length c) w1 rfl h)
        clear hK hu hc
        obtain ⟨m0, m1, m2, mf, mlt⟩ := (hT5.out.step hb)
        go_simp
        exact hk.out _ (Below.refl _ _)
      · rw [if_neg (by decide), if_neg (by decide), if_pos (by kernel_rfl)]
        refine calmT_step rfl fun a ω κ hb hu hc hK => ?_
        have h9 : a.tmps[9]?.getD undef = .int .i64 (i : Int) := (hu 9 rfl).trans e9
        have hk := Lib.hid (fun w1 (h : Below ω.heap.size ω w1) => hK (.int .i64 (i : Int)) w1 rfl h)
        clear hK hu hc
        go_simp
        exact hk.out _ (Below.refl _ _)
      · rw [if_neg (by decide), if_neg (by decide), if_pos (by kernel_rfl)]
        refine calmT_step rfl fun a ω κ hb hu hc hK => ?_
        have h135 : a.tmps[135]?.getD undef = .int .i64 (i : Int) := hc 12 135 rfl rfl
        have hk := Lib.hid (fun w1 (h : Below ω.heap.size ω w1) => hK (.int .i64 ((i : Int) + 1)) w1 rfl h)
        clear hK hu hc
        have hwr := hwi.out
        go_simp
        exact hk.out _ (Below.refl _ _)
      · rw [if_neg (by decide), if_neg (by decide), if_pos (by kernel_rfl)]
        refine calmT_step rfl fun a ω κ hb hu hc hK => ?_
        have h134 : a.tmps[134]?.getD undef = .slice A l.length c := hc 11 134 rfl rfl
        have h136 : a.tmps[136]?.getD undef = .int .i64 ((i : Int) + 1) := hc 13 136 rfl rfl
        have hk := Lib.hid (fun w1 (h : Below ω.heap.size ω w1) => hK (.slice A1 m c1) w1 rfl h)
        clear hK hu hc
        have sfr := hfr2.out ω
        go_simp
        exact hk.out _ (Below.refl _ _)
      · rw [if_pos rfl]
        refine write_of rfl fun a ω κ hb hu hc hK => ?_
        have h130 : (SRel.ow w2.heap.size i (l.take i)).p (a.tmps[130]?.getD undef) ω := hc 7 130 rfl rfl
        have h137 : a.tmps[137]?.getD undef = .slice A1 m c1 := hc 14 137 rfl rfl
        have hk := Lib.hid (fun vz wz (hvz : (fun v9 w9 => StPhi w B g bm gt most last who l last (.slice A l.length c) (delS l id) v9 w9 ∧ w9.cell? ⟨g7, 1, none⟩ = some (.int .i64 id) ∧ g7 < w9.heap.size) vz wz) => hK vz wz hvz)
        clear hK hu hc
        obtain ⟨A3, c3, e130, hO3⟩ := h130
        refine wp_app (.tmp 130) (.tmp 137) 76 rfl SSeat (eval_tmpS e130) hO3 (eval_tmpS h137) (m := m) (news := (l.drop (i + 1)).flatMap seatC) (by rw [flat_seat_len, hm5.out]) (hR5.out ω hb).2 (seat_one _) (by have := hi5.out; unfold maxLen; omega) (by have := hi5.out; omega) hb.size fun v' w' hO' hg' hat' => ?_
        have hlt5 := hG5.out.2
        have hfar := fun b e => (hO3.lt b e).1
        have hy9 := (World.cell?_of_block (a := ⟨g7, 1, none⟩) (grown_blk hg' (Nat.lt_of_lt_of_le hlt5.2.2.2 hb.size) (fun b e => by have := hfar b e; show b ≠ g7; omega))).trans ((hb.cell (p := ⟨g7, 1, none⟩) hlt5.2.2.2).trans hY5.out)
        exact hk.out _ _ ⟨StPhi.of (hD5.out.step hb) (hT5.out.step hb) (seats_del hdl.out hm5.out (Nat.le_of_lt hi5.out.1) hG5.out.1.2.2.2 hO') (fun b e => by have := hfar b e; omega) hg' hat' (by simp) (below_step hb hL5.out (Nat.le_trans hB0 (by omega))) ⟨hG5.out.1.1, hG5.out.1.2.1, hG5.out.1.2.2.1⟩ (fun b e => by have := hfar b e; have := hG5.out.1.2.2.2; omega), hy9, Nat.lt_of_lt_of_le (Nat.lt_of_lt_of_le hlt5.2.2.2 hb.size) hg'.size⟩
      · rw [if_neg (by decide), if_neg (by decide), if_neg (by rw [show pathB _ _ _ _ = false from by kernel_rfl]; decide)]
        refine pure_of rfl rfl fun a ω κ hu hc hK => ?_
        have h123 : a.tmps[123]?.getD undef = .pointer (some ⟨gt, 0, none⟩) := hc 0 123 rfl rfl
        have hk := Lib.hid hK
        clear hK hu hc
        go_simp
        exact hk.out
      · rw [if_neg (by decide), if_neg (by decide), if_neg (by rw [show pathB _ _ _ _ = false from by kernel_rfl]; decide)]
        refine pure_of rfl rfl fun a ω κ hu hc hK => ?_
        have h139 : a.tmps[139]?.getD undef = .pointer (some ⟨gt, 0, none⟩) := hc 16 139 rfl rfl
        have hk := Lib.hid hK
        clear hK hu hc
        go_simp
        exact hk.out
      · rw [if_neg (by decide), if_pos rfl]
        refine end_of rfl fun aa ω hu hsz hdf hc hf => ?_
        have h123 : aa.tmps[123]?.getD undef = .pointer (some ⟨gt, 0, none⟩) := hc 0 123 _ (by decide) rfl rfl
        have h124 : aa.tmps[124]?.getD undef = .pointer (some ⟨gt, 0, none⟩) := hc 1 124 _ (by decide) rfl rfl
        have h125 : aa.tmps[125]?.getD undef = .pointer (some ⟨gt, 0, none⟩) := hc 2 125 _ (by decide) rfl rfl
        have h126 : aa.tmps[126]?.getD undef = .pointer (some ⟨gt, 71, none⟩) := hc 3 126 _ (by decide) rfl rfl
        have h127 : aa.tmps[127]?.getD undef = .slice A l.length c := hc 4 127 _ (by decide) rfl rfl
        have h128 : aa.tmps[128]?.getD undef = .int .i64 (i : Int) := hc 5 128 _ (by decide) rfl rfl
        have h129 : aa.tmps[129]?.getD undef = .slice A i c := hc 6 129 _ (by decide) rfl rfl
        have h131 : aa.tmps[131]?.getD undef = .pointer (some ⟨gt, 0, none⟩) := hc 8 131 _ (by decide) rfl rfl
        have h132 : aa.tmps[132]?.getD undef = .pointer (some ⟨gt, 0, none⟩) := hc 9 132 _ (by decide) rfl rfl
        have h133 : aa.tmps[133]?.getD undef = .pointer (some ⟨gt, 71, none⟩) := hc 10 133 _ (by decide) rfl rfl
        have h134 : aa.tmps[134]?.getD undef = .slice A l.length c := hc 11 134 _ (by decide) rfl rfl
        have h135 : aa.tmps[135]?.getD undef = .int .i64 (i : Int) := hc 12 135 _ (by decide) rfl rfl
        have h136 : aa.tmps[136]?.getD undef = .int .i64 ((i : Int) + 1) := hc 13 136 _ (by decide) rfl rfl
        have h137 : aa.tmps[137]?.getD undef = .slice A1 m c1 := hc 14 137 _ (by decide) rfl rfl
        have h139 : aa.tmps[139]?.getD undef = .pointer (some ⟨gt, 0, none⟩) := hc 16 139 _ (by decide) rfl rfl
        have h140 : aa.tmps[140]?.getD undef = .pointer (some ⟨gt, 71, none⟩) := hc 17 140 _ (by decide) rfl rfl
        have hF : (fun v9 w9 => StPhi w B g bm gt most last who l last (.slice A l.length c) (delS l id) v9 w9 ∧ w9.cell? ⟨g7, 1, none⟩ = some (.int .i64 id) ∧ g7 < w9.heap.size) (aa.tmps[138]?.getD undef) ω := by obtain ⟨vz, hvz, hvq⟩ := hf; rw [hvq 138 rfl]; exact hvz
        have hHz := Lib.hid (And.intro hu (And.intro hsz hdf))
        clear hc hf hu hsz hdf hz0
        obtain ⟨⟨⟨A8, c8, e8⟩, hr8⟩, y9, hg79⟩ := hF
        rw [e8, hz.out] at hr8
        rw [hz.out] at e8
        have hr8H := Lib.hid hr8
        obtain ⟨m0, m1, m2, mf, mlt⟩ := hr8.tok
        clear hr8
        go_simp
        have ha0 := hha0.out
        subst ha0
        have he := act_patchT (n := 282) 18 [false, false, false, false, false, false, false, false, false, false, false, false, false, false, false, false, false, false, false, false, false, false, false, false, false, false, false, false, false, false, false, false, false, false, false, false, false, false, false, false, false, false, false, false, false, false, false, false, false, false, false, false, false, false, false, false, false, false, false, false, false, false, false, false, false, false, false, false, false, false, false, false, false, false, false, false, false, false, false, false, false, false, false, false, false, false, false, false, false, false, false, false, false, false, false, false, false, false, false, false, false, false, false, false, false, false, false, false, false, false, false, false, false, false, false, false, false, false, false, false, false, false, false, true, true, true, true, true, true, true, true, true, true, true, true, true, true, true, true, true, true, false, false, false, false, false, false, false, false, false, false, false, false, false, false, false, false, false, false, false, false, false, false, false, false, false, false, false, false, false, false, false, false, false, false, false, false, false, false, false, false, false, false, false, false, false, false, false, false, false, false, false, false, false, false, false, false, false, false, false, false, false, false, false, false, false, false, false, false, false, false, false, false, false, false, false, false, false, false, false, false, false, false, false, false, false, false, false, false, false, false, false, false, false, false, false, false, false, false, false, false, false, false, false, false, false, false, false, false, false, false, false, false, false, false, false, false, false, false, false, false, false, false, false, false, false, false, false, false, false, false, false, false, false, false, false, false, false, false, false, false, false] rfl (by kernel_rfl) hHz.out.1 hHz.out.2.1 hHz.out.2.2
        simp only [patch, cond_true, cond_false, Nat.reduceAdd] at he
        clear hHz hha0 e1 e9
        rw [he]
        clear he
        generalize aa.tmps[123]?.getD undef = x123 at *
        generalize aa.tmps[124]?.getD undef = x124 at *
        generalize aa.tmps[125]?.getD undef = x125 at *
        generalize aa.tmps[126]?.getD undef = x126 at *
        generalize aa.tmps[127]?.getD undef = x127 at *
        generalize aa.tmps[128]?.getD undef = x128 at *
        generalize aa.tmps[129]?.getD undef = x129 at *
        generalize aa.tmps[130]?.getD undef = x130 at *
        generalize aa.tmps[131]?.getD undef = x131 at *
        generalize aa.tmps[132]?.getD undef = x132 at *
        generalize aa.tmps[133]?.getD undef = x133 at *
        generalize aa.tmps[134]?.getD undef = x134 at *
        generalize aa.tmps[135]?.getD undef = x135 at *
        generalize aa.tmps[136]?.getD undef = x136 at *
        generalize aa.tmps[137]?.getD undef = x137 at *
        generalize aa.tmps[138]?.getD undef = x138 at *
        generalize aa.tmps[139]?.getD undef = x139 at *
        generalize aa.tmps[140]?.getD undef = x140 at *
        have hx := h2H.out
        have hr := hr8H.out
        have hd5 := desk_set (desk_set hr.desk hx.n1 hx.n2 71 (.slice A8 0 c8)) hx.n1 hx.n2 70 (.int .i64 0)
        have ht5 := Lib.hid (tok_who (tok_seats hr.tok (.slice A8 0 c8)) 0)
        have ho5 := Lib.hid (own_set (i := 70) (u := .int .i64 0) (own_set (i := 71) (u := .slice A8 0 c8) hr.own (fun b e => (hr.nb b e).2.2)) (fun b e => (hr.nb b e).2.2))
        have hnb5 := Lib.hid hr.nb
        have hL6 := Lib.hid (below_set (i := 70) (v := .int .i64 0) (below_set (i := 71) (v := .slice A8 0 c8) hr.below hx.b3) hx.b3)
        have hlo := Lib.hid (desk_Close g bm most last who id l _ hd5 _hid)
        unfold CloseR at hlo
        rw [hcz.out, if_pos ⟨hso.out, hz.out⟩] at hlo
        clear hd5 hr hx
        go_wp2_with fail
        refine hlo.out.mono ?_
        rintro e w4 ⟨rfl, hd4, hb4⟩
        have hx := h2H.out
        have ht4 := tok_But ht5.out hb4 hx.n1 hx.n2
        have ho4 := own_But ho5.out hb4 (fun b e => ⟨(hnb5.out b e).1, (hnb5.out b e).2.1⟩)
        have hL7 := hb4.below hL6.out hx.b1 hx.b2 (Nat.le_trans hB0 (by omega))
        go_wp2
        go_ret
        exact ⟨ret_bool (by simp), last, 0, delS l id, _, ⟨hd4, ht4, ho4, hx.n1, hx.n2, hnb5.out, hx.b1, hx.b2, hx.b3, by have := hx.hw; omega, hx.hl, del_ids hx.hid⟩, by omega, Nat.le_succ_of_le (del_len l id), hL7⟩
    · have hn1 : ((delS l id).length == 0) = false := by simpa using hz'
      have hn2 : (((delS l id).length : Int) == 0) = false := by rw [beq_eq_false_iff_ne]; omega
      have hz := Lib.hid hz'
      clear hz'
      go_upto_region 24 with (fail)
      generalize ha0 : Act.mk _ _ = a0
      have e1 : a0.tmps[1]?.getD undef = .pointer (some ⟨gt, 0, none⟩) := by rw [← ha0]; rfl
      have e9 : a0.tmps[9]?.getD undef = .int .i64 (i : Int) := by rw [← ha0]; rfl
      have hz0 : a0.tmps.size = 282 := by rw [← ha0]; rfl
      have hha0 := Lib.hid ha0
      clear ha0
      refine wp_region_write (fun jx_ => match jx_ with | 0 => some (.pointer (some ⟨gt, 0, none⟩)) | 1 => some (.pointer (some ⟨gt, 0, none⟩)) | 2 => some (.pointer (some ⟨gt, 0, none⟩)) | 3 => some (.pointer (some ⟨gt, 71, none⟩)) | 4 => some (.slice A l.length c) | 5 => some (.int .i64 (i : Int)) | 6 => some (.slice A i c) | 8 => some (.pointer (some ⟨gt, 0, none⟩)) | 9 => some (.pointer (some ⟨gt, 0, none⟩)) | 10 => some (.pointer (some ⟨gt, 71, none⟩)) | 11 => some (.slice A l.length c) | 12 => some (.int .i64 (i : Int)) | 13 => some (.int .i64 ((i : Int) + 1)) | 14 => some (.slice A1 m c1) | 16 => some (.pointer (some ⟨gt, 0, none⟩)) | 17 => some (.pointer (some ⟨gt, 71, none⟩)) | _ => none) (fun jx_ => match jx_ with | 7 => SRel.ow w2.heap.size i (l.take i) | 15 => SRel.any | 18 => SRel.any | _ => SRel.any) 15 18 (fun v9 w9 => StPhi w B g bm gt most last who l last (.slice A l.length c) (delS l id) v9 w9 ∧ w9.cell? ⟨g7, 1, none⟩ = some (.int .i64 id) ∧ g7 < w9.heap.size) (by kernel_rfl) (by kernel_rfl) (by kernel_rfl) (slotsOk_of hz0 (by kernel_rfl)) (by kernel_rfl) (by decide) rfl (of_decide_eq_true (by kernel_rfl)) (of_decide_eq_true (by kernel_rfl)) ⟨?_, ?_, ?_, ?_, ?_, ?_, ?_, ?_, ?_, ?_, ?_, ?_, ?_, ?_, ?_, ?_, ?_, ?_, ?_, trivial⟩
      · rw [if_neg (by decide), if_neg (by decide), if_neg (by rw [show pathB _ _ _ _ = false from by kernel_rfl]; decide)]
        refine pure_of rfl rfl fun a ω κ hu hc hK => ?_
        have h1 : a.tmps[1]?.getD undef = .pointer (some ⟨gt, 0, none⟩) := (hu 1 rfl).trans e1
        have hk := Lib.hid hK
        clear hK hu hc
        go_simp
        exact hk.out
      · rw [if_neg (by decide), if_neg (by decide), if_pos (by kernel_rfl)]
        refine calmT_step rfl fun a ω κ hb hu hc hK => ?_
        have h1 : a.tmps[1]?.getD undef = .pointer (some ⟨gt, 0, none⟩) := (hu 1 rfl).trans e1
        have hk := Lib.hid (fun w1 (h : Below ω.heap.size ω w1) => hK (.pointer (some ⟨gt, 0, none⟩)) w1 rfl h)
        clear hK hu hc
        go_simp
        exact hk.out _ (Below.refl _ _)
      · rw [if_neg (by decide), if_neg (by decide), if_pos (by kernel_rfl)]
        refine calmT_step rfl fun a ω κ hb hu hc hK => ?_
        have h124 : a.tmps[124]?.getD undef = .pointer (some ⟨gt, 0, none⟩) := hc 1 124 rfl rfl
        have hk := Lib.hid (fun w1 (h : Below ω.heap.size ω w1) => hK (.pointer (some ⟨gt, 0, none⟩)) w1 rfl h)
        clear hK hu hc
        go_simp
        exact hk.out _ (Below.refl _ _)
      · rw [if_neg (by decide), if_neg (by decide), if_pos (by kernel_rfl)]
        refine calmT_step rfl fun a ω κ hb hu hc hK => ?_
        have h125 : a.tmps[125]?.getD undef = .pointer (some ⟨gt, 0, none⟩) := hc 2 125 rfl rfl
        have hk := Lib.hid (fun w1 (h : Below ω.heap.size ω w1) => hK (.pointer (some ⟨gt, 71, none⟩)) w1 rfl h)
        clear hK hu hc
        go_simp
        exact hk.out _ (Below.refl _ _)
      · rw [if_neg (by decide), if_neg (by decide), if_pos (by kernel_rfl)]
        refine calmT_step rfl fun a ω κ hb hu hc hK => ?_
        have h126 : a.tmps[126]?.getD undef = .pointer (some ⟨gt, 71, none⟩) := hc 3 126 rfl rfl
        have hk := Lib.hid (fun w1 (h : Below ω.heap.size ω w1) => hK (.slice A l.length c) w1 rfl h)
        clear hK hu hc
        obtain ⟨m0, m1, m2, mf, mlt⟩ := (hT5.out.step hb)
        go_simp
        exact hk.out _ (Below.refl _ _)
      · rw [if_neg (by decide), if_neg (by decide), if_pos (by kernel_rfl)]
        refine calmT_step rfl fun a ω κ hb hu hc hK => ?_
        have h9 : a.tmps[9]?.getD undef = .int .i64 (i : Int) := (hu 9 rfl).trans e9
        have hk := Lib.hid (fun w1 (h : Below ω.heap.size ω w1) => hK (.int .i64 (i : Int)) w1 rfl h)
        clear hK hu hc
        go_simp
        exact hk.out _ (Below.refl _ _)
      · rw [if_neg (by decide), if_neg (by decide), if_pos (by kernel_rfl)]
        refine calmT_step rfl fun a ω κ hb hu hc hK => ?_
        have h127 : a.tmps[127]?.getD undef = .slice A l.length c := hc 4 127 rfl rfl
        have h128 : a.tmps[128]?.getD undef = .int .i64 (i : Int) := hc 5 128 rfl rfl
        have hk := Lib.hid (fun w1 (h : Below ω.heap.size ω w1) => hK (.slice A i c) w1 rfl h)
        clear hK hu hc
        have sto := hto.out ω
        go_simp
        exact hk.out _ (Below.refl _ _)
      · rw [if_neg (by decide), if_neg (by decide), if_pos (by kernel_rfl)]
        refine calmT_step rfl fun a ω κ hb hu hc hK => ?_
        have h129 : a.tmps[129]?.getD undef = .slice A i c := hc 6 129 rfl rfl
        have hk := Lib.hid (fun v w1 (hv : (SRel.ow w2.heap.size i (l.take i)).p v w1) (h : Below ω.heap.size ω w1) => hK v w1 hv h)
        clear hK hu hc
        refine wp_app (.const (.slice none 0 0)) (.tmp 129) 76 rfl SSeat rfl (World.ownsRow_nil _ w2.heap.size _ _) (eval_tmpS h129) (m := i) (news := (l.take i).flatMap seatC) (by rw [flat_seat_len]; simp; omega) (hR5.out ω hb).1 (seat_one _) (by unfold maxLen; omega) (by omega) hb.size fun v' w' hO' hg' hat' => ?_
        exact hk.out _ _ (SRel.ow_of (by omega) hO') ((Below.refl _ _).grown hg' (Nat.le_refl _) (fun g e => by cases e))
      · rw [if_neg (by decide), if_neg (by decide), if_pos (by kernel_rfl)]
        refine calmT_step rfl fun a ω κ hb hu hc hK => ?_
        have h1 : a.tmps[1]?.getD undef = .pointer (some ⟨gt, 0, none⟩) := (hu 1 rfl).trans e1
        have hk := Lib.hid (fun w1 (h : Below ω.heap.size ω w1) => hK (.pointer (some ⟨gt, 0, none⟩)) w1 rfl h)
        clear hK hu hc
        go_simp
        exact hk.out _ (Below.refl _ _)
      · rw [if_neg (by decide), if_neg (by decide), if_pos (by kernel_rfl)]
        refine calmT_step rfl fun a ω κ hb hu hc hK => ?_
        have h131 : a.tmps[131]?.getD undef = .pointer (some ⟨gt, 0, none⟩) := hc 8 131 rfl rfl
        have hk := Lib.hid (fun w1 (h : Below ω.heap.size ω w1) => hK (.pointer (some ⟨gt, 0, none⟩)) w1 rfl h)
        clear hK hu hc
        go_simp
        exact hk.out _ (Below.refl _ _)
      · rw [if_neg (by decide), if_neg (by decide), if_pos (by kernel_rfl)]
        refine calmT_step rfl fun a ω κ hb hu hc hK => ?_
        have h132 : a.tmps[132]?.getD undef = .pointer (some ⟨gt, 0, none⟩) := hc 9 132 rfl rfl
        have hk := Lib.hid (fun w1 (h : Below ω.heap.size ω w1) => hK (.pointer (some ⟨gt, 71, none⟩)) w1 rfl h)
        clear hK hu hc
        go_simp
        exact hk.out _ (Below.refl _ _)
      · rw [if_neg (by decide), if_neg (by decide), if_pos (by kernel_rfl)]
        refine calmT_step rfl fun a ω κ hb hu hc hK => ?_
        have h133 : a.tmps[133]?.getD undef = .pointer (some ⟨gt, 71, none⟩) := hc 10 133 rfl rfl
        have hk := Lib.hid (fun w1 (h : Below ω.heap.size ω w1) => hK (.slice A l.length c) w1 rfl h)
        clear hK hu hc
        obtain ⟨m0, m1, m2, mf, mlt⟩ := (hT5.out.step hb)
        go_simp
        exact hk.out _ (Below.refl _ _)
      · rw [if_neg (by decide), if_neg (by decide), if_pos (by kernel_rfl)]
        refine calmT_step rfl fun a ω κ hb hu hc hK => ?_
        have h9 : a.tmps[9]?.getD undef = .int .i64 (i : Int) := (hu 9 rfl).trans e9
        have hk := Lib.hid (fun w1 (h : Below ω.heap.size ω w1) => hK (.int .i64 (i : Int)) w1 rfl h)
        clear hK hu hc
        go_simp
        exact hk.out _ (Below.refl _ _)
      · rw [if_neg (by decide), if_neg (by decide), if_pos (by kernel_rfl)]
        refine calmT_step rfl fun a ω κ hb hu hc hK => ?_
        have h135 : a.tmps[135]?.getD undef = .int .i64 (i : Int) := hc 12 135 rfl rfl
        have hk := Lib.hid (fun w1 (h : Below ω.heap.size ω w1) => hK (.int .i64 ((i : Int) + 1)) w1 rfl h)
        clear hK hu hc
        have hwr := hwi.out
        go_simp
        exact hk.out _ (Below.refl _ _)
      · rw [if_neg (by decide), if_neg (by decide), if_pos (by kernel_rfl)]
        refine calmT_step rfl fun a ω κ hb hu hc hK => ?_
        have h134 : a.tmps[134]?.getD undef = .slice A l.length c := hc 11 134 rfl rfl
        have h136 : a.tmps[136]?.getD undef = .int .i64 ((i : Int) + 1) := hc 13 136 rfl rfl
        have hk := Lib.hid (fun w1 (h : Below ω.heap.size ω w1) => hK (.slice A1 m c1) w1 rfl h)
        clear hK hu hc
        have sfr := hfr2.out ω
        go_simp
        exact hk.out _ (Below.refl _ _)
      · rw [if_pos rfl]
        refine write_of rfl fun a ω κ hb hu hc hK => ?_
        have h130 : (SRel.ow w2.heap.size i (l.take i)).p (a.tmps[130]?.getD undef) ω := hc 7 130 rfl rfl
        have h137 : a.tmps[137]?.getD undef = .slice A1 m c1 := hc 14 137 rfl rfl
        have hk := Lib.hid (fun vz wz (hvz : (fun v9 w9 => StPhi w B g bm gt most last who l last (.slice A l.length c) (delS l id) v9 w9 ∧ w9.cell? ⟨g7, 1, none⟩ = some (.int .i64 id) ∧ g7 < w9.heap.size) vz wz) => hK vz wz hvz)
        clear hK hu hc
        obtain ⟨A3, c3, e130, hO3⟩ := h130
        refine wp_app (.tmp 130) (.tmp 137) 76 rfl SSeat (eval_tmpS e130) hO3 (eval_tmpS h137) (m := m) (news := (l.drop (i + 1)).flatMap seatC) (by rw [flat_seat_len, hm5.out]) (hR5.out ω hb).2 (seat_one _) (by have := hi5.out; unfold maxLen; omega) (by have := hi5.out; omega) hb.size fun v' w' hO' hg' hat' => ?_
        have hlt5 := hG5.out.2
        have hfar := fun b e => (hO3.lt b e).1
        have hy9 := (World.cell?_of_block (a := ⟨g7, 1, none⟩) (grown_blk hg' (Nat.lt_of_lt_of_le hlt5.2.2.2 hb.size) (fun b e => by have := hfar b e; show b ≠ g7; omega))).trans ((hb.cell (p := ⟨g7, 1, none⟩) hlt5.2.2.2).trans hY5.out)
        exact hk.out _ _ ⟨StPhi.of (hD5.out.step hb) (hT5.out.step hb) (seats_del hdl.out hm5.out (Nat.le_of_lt hi5.out.1) hG5.out.1.2.2.2 hO') (fun b e => by have := hfar b e; omega) hg' hat' (by simp) (below_step hb hL5.out (Nat.le_trans hB0 (by omega))) ⟨hG5.out.1.1, hG5.out.1.2.1, hG5.out.1.2.2.1⟩ (fun b e => by have := hfar b e; have := hG5.out.1.2.2.2; omega), hy9, Nat.lt_of_lt_of_le (Nat.lt_of_lt_of_le hlt5.2.2.2 hb.size) hg'.size⟩
      · rw [if_neg (by decide), if_neg (by decide), if_neg (by rw [show pathB _ _ _ _ = false from by kernel_rfl]; decide)]
        refine pure_of rfl rfl fun a ω κ hu hc hK => ?_
        have h123 : a.tmps[123]?.getD undef = .pointer (some ⟨gt, 0, none⟩) := hc 0 123 rfl rfl
        have hk := Lib.hid hK
        clear hK hu hc
        go_simp
        exact hk.out
      · rw [if_neg (by decide), if_neg (by decide), if_neg (by rw [show pathB _ _ _ _ = false from by kernel_rfl]; decide)]
        refine pure_of rfl rfl fun a ω κ hu hc hK => ?_
        have h139 : a.tmps[139]?.getD undef = .pointer (some ⟨gt, 0, none⟩) := hc 16 139 rfl rfl
        have hk := Lib.hid hK
        clear hK hu hc
        go_simp
        exact hk.out
      · rw [if_neg (by decide), if_pos rfl]
        refine end_of rfl fun aa ω hu hsz hdf hc hf => ?_
        have h123 : aa.tmps[123]?.getD undef = .pointer (some ⟨gt, 0, none⟩) := hc 0 123 _ (by decide) rfl rfl
        have h124 : aa.tmps[124]?.getD undef = .pointer (some ⟨gt, 0, none⟩) := hc 1 124 _ (by decide) rfl rfl
        have h125 : aa.tmps[125]?.getD undef = .pointer (some ⟨gt, 0, none⟩) := hc 2 125 _ (by decide) rfl rfl
        have h126 : aa.tmps[126]?.getD undef = .pointer (some ⟨gt, 71, none⟩) := hc 3 126 _ (by decide) rfl rfl
        have h127 : aa.tmps[127]?.getD undef = .slice A l.length c := hc 4 127 _ (by decide) rfl rfl
        have h128 : aa.tmps[128]?.getD undef = .int .i64 (i : Int) := hc 5 128 _ (by decide) rfl rfl
        have h129 : aa.tmps[129]?.getD undef = .slice A i c := hc 6 129 _ (by decide) rfl rfl
        have h131 : aa.tmps[131]?.getD undef = .pointer (some ⟨gt, 0, none⟩) := hc 8 131 _ (by decide) rfl rfl
        have h132 : aa.tmps[132]?.getD undef = .pointer (some ⟨gt, 0, none⟩) := hc 9 132 _ (by decide) rfl rfl
        have h133 : aa.tmps[133]?.getD undef = .pointer (some ⟨gt, 71, none⟩) := hc 10 133 _ (by decide) rfl rfl
        have h134 : aa.tmps[134]?.getD undef = .slice A l.length c := hc 11 134 _ (by decide) rfl rfl
        have h135 : aa.tmps[135]?.getD undef = .int .i64 (i : Int) := hc 12 135 _ (by decide) rfl rfl
        have h136 : aa.tmps[136]?.getD undef = .int .i64 ((i : Int) + 1) := hc 13 136 _ (by decide) rfl rfl
        have h137 : aa.tmps[137]?.getD undef = .slice A1 m c1 := hc 14 137 _ (by decide) rfl rfl
        have h139 : aa.tmps[139]?.getD undef = .pointer (some ⟨gt, 0, none⟩) := hc 16 139 _ (by decide) rfl rfl
        have h140 : aa.tmps[140]?.getD undef = .pointer (some ⟨gt, 71, none⟩) := hc 17 140 _ (by decide) rfl rfl
        have hF : (fun v9 w9 => StPhi w B g bm gt most last who l last (.slice A l.length c) (delS l id) v9 w9 ∧ w9.cell? ⟨g7, 1, none⟩ = some (.int .i64 id) ∧ g7 < w9.heap.size) (aa.tmps[138]?.getD undef) ω := by obtain ⟨vz, hvz, hvq⟩ := hf; rw [hvq 138 rfl]; exact hvz
        have hHz := Lib.hid (And.intro hu (And.intro hsz hdf))
        clear hc hf hu hsz hdf hz0
        obtain ⟨⟨⟨A8, c8, e8⟩, hr8⟩, y9, hg79⟩ := hF
        rw [e8] at hr8
        have hr8H := Lib.hid hr8
        obtain ⟨m0, m1, m2, mf, mlt⟩ := hr8.tok
        clear hr8
        go_simp
        have ha0 := hha0.out
        subst ha0
        have he := act_patchT (n := 282) 18 [false, false, false, false, false, false, false, false, false, false, false, false, false, false, false, false, false, false, false, false, false, false, false, false, false, false, false, false, false, false, false, false, false, false, false, false, false, false, false, false, false, false, false, false, false, false, false, false, false, false, false, false, false, false, false, false, false, false, false, false, false, false, false, false, false, false, false, false, false, false, false, false, false, false, false, false, false, false, false, false, false, false, false, false, false, false, false, false, false, false, false, false, false, false, false, false, false, false, false, false, false, false, false, false, false, false, false, false, false, false, false, false, false, false, false, false, false, false, false, false, false, false, false, true, true, true, true, true, true, true, true, true, true, true, true, true, true, true, true, true, true, false, false, false, false, false, false, false, false, false, false, false, false, false, false, false, false, false, false, false, false, false, false, false, false, false, false, false, false, false, false, false, false, false, false, false, false, false, false, false, false, false, false, false, false, false, false, false, false, false, false, false, false, false, false, false, false, false, false, false, false, false, false, false, false, false, false, false, false, false, false, false, false, false, false, false, false, false, false, false, false, false, false, false, false, false, false, false, false, false, false, false, false, false, false, false, false, false, false, false, false, false, false, false, false, false, false, false, false, false, false, false, false, false, false, false, false, false, false, false, false, false, false, false, false, false, false, false, false, false, false, false, false, false, false, false, false, false, false, false, false, false] rfl (by kernel_rfl) hHz.out.1 hHz.out.2.1 hHz.out.2.2
        simp only [patch, cond_true, cond_false, Nat.reduceAdd] at he
        clear hHz hha0 e1 e9
        rw [he]
        clear he
        generalize aa.tmps[123]?.getD undef = x123 at *
        generalize aa.tmps[124]?.getD undef = x124 at *
        generalize aa.tmps[125]?.getD undef = x125 at *
        generalize aa.tmps[126]?.getD undef = x126 at *
        generalize aa.tmps[127]?.getD undef = x127 at *
        generalize aa.tmps[128]?.getD undef = x128 at *
        generalize aa.tmps[129]?.getD undef = x129 at *
        generalize aa.tmps[130]?.getD undef = x130 at *
        generalize aa.tmps[131]?.getD undef = x131 at *
        generalize aa.tmps[132]?.getD undef = x132 at *
        generalize aa.tmps[133]?.getD undef = x133 at *
        generalize aa.tmps[134]?.getD undef = x134 at *
        generalize aa.tmps[135]?.getD undef = x135 at *
        generalize aa.tmps[136]?.getD undef = x136 at *
        generalize aa.tmps[137]?.getD undef = x137 at *
        generalize aa.tmps[138]?.getD undef = x138 at *
        generalize aa.tmps[139]?.getD undef = x139 at *
        generalize aa.tmps[140]?.getD undef = x140 at *
        have hx := h2H.out
        have hr := hr8H.out
        have hd5 := desk_set hr.desk hx.n1 hx.n2 71 (.slice A8 (delS l id).length c8)
        have ht5 := Lib.hid (tok_seats hr.tok (.slice A8 (delS l id).length c8))
        have ho5 := Lib.hid (own_set (i := 71) (u := .slice A8 (delS l id).length c8) hr.own (fun b e => (hr.nb b e).2.2))
        have hnb5 := Lib.hid hr.nb
        have hL6 := Lib.hid (below_set (i := 71) (v := .slice A8 (delS l id).length c8) hr.below hx.b3)
        have hlo := Lib.hid (desk_Close g bm most last who id l _ hd5 _hid)
        unfold CloseR at hlo
        rw [hcz.out, if_neg (fun e => hz.out e.2)] at hlo
        clear hd5 hr hx
        go_wp2_with fail
        refine hlo.out.mono ?_
        rintro e w4 ⟨rfl, hd4, hb4⟩
        have hx := h2H.out
        have ht4 := tok_But ht5.out hb4 hx.n1 hx.n2
        have ho4 := own_But ho5.out hb4 (fun b e => ⟨(hnb5.out b e).1, (hnb5.out b e).2.1⟩)
        have hL7 := hb4.below hL6.out hx.b1 hx.b2 (Nat.le_trans hB0 (by omega))
        go_wp2
        go_ret
        exact ⟨ret_bool (by simp), last, who, delS l id, _, ⟨hd4, ht4, ho4, hx.n1, hx.n2, hnb5.out, hx.b1, hx.b2, hx.b3, by have := hx.hw; omega, hx.hl, del_ids hx.hid⟩, by omega, Nat.le_succ_of_le (del_len l id), hL7⟩
end Go.Proofs.Ytdlmamnnamlleaa
