/- TreeLogs: the law's function returns true. -/
import Derived.Test.YtjihklaocgmlpaaDoorLogA
import Derived.Test.YtjihklaocgmlpaaDoorTail2
import Derived.Test.YtjihklaocgmlpaaDoorTreeE
namespace Go.Proofs.YtjihklaocgmlpaaDoor
open Go.ChangeShapes Go.WideShapes Go.ChangeAt Go.RowKit
set_option maxHeartbeats 1000000
set_option maxRecDepth 100000
attribute [local irreducible] arrV dgA sha
attribute [local go_sem ↓] load_o32 store_o32 execl_o32 execs_o32 load_e32 execl_e32
attribute [local go_sem] isHead_mk isPart_mk offOf_mk blkOf_mk isAgg_mk cellsV_mk row_drew rowAt_drew row_new_cells row_old rowAt_new rowAt_old zeroD ldOk_drew ldC_drew
/-- The root out of the peaks alone. -/
theorem fold_last {α : Type} {node : α → α → α} {e : α} : ∀ (f : Nat) (l : List α), l.length ≤ f → l ≠ [] → ∃ P d, pkP node l = P ++ [d] ∧ foldP node d P = root node e l
  | 0, l, h, h0 => absurd (List.eq_nil_of_length_eq_zero (by omega)) h0
  | f + 1, l, h, h0 => by
    have hl0 : l.length ≠ 0 := fun e => h0 (List.eq_nil_of_length_eq_zero e)
    by_cases hp : l.length % 2 = 1
    · obtain ⟨q, a, rfl, hq, -⟩ := odd_last rfl hp
      exact ⟨pkP node (floorL node q), a, pkP_odd hq, by rw [← pkP_even hq]; exact foldP_pk q.length q a (Nat.le_refl _)⟩
    · obtain ⟨P, d, h1, h2⟩ := fold_last f (floorL node l) (by rw [floorL_len]; omega) (fun e0 => by have := congrArg List.length e0; rw [floorL_len] at this; simp at this; omega)
      exact ⟨P, d, by rw [pkP_even (by omega)]; exact h1, by rw [root_up']; exact h2⟩
def SRel.pt (P : List (List UInt8)) : SRel := ⟨fun v w => ∃ A c, v = .slice A P.length c ∧ Pt w A P c, fun _ _ _ hb h => by
  obtain ⟨A, c, e, h⟩ := h
  exact ⟨A, c, e, h.step hb⟩⟩
theorem OwnD.rel {w0 W : World} {B : Nat} {v : Value} {P : List (List UInt8)} (h : OwnD w0 B v P W) : (SRel.pt P).p v W := by
  obtain ⟨A, c, rfl, -, -⟩ := h.form
  exact ⟨A, c, rfl, h.pt⟩
/-- A log of the leaves q answers with their root. -/
theorem log_Root (K : Nat → W32) (w0 : World) (g n : Nat) (v : Value) (q : List Sb) (w : World) (h : LogAt w0 g n v (peaksL K q) w) (hq : q.length = n) (hT : Tabs K w) (hn : n ≤ 1000000) :
    Calls Tryd.prog 8 #[.pointer (some ⟨g, 0, none⟩)] w fun e w' => e = .returned (.agg (dgA (rootL K q))) ∧ Below w.heap.size w w' := by
  by_cases h0 : n = 0
  · subst h0
    obtain rfl := List.eq_nil_of_length_eq_zero hq
    exact log_Root0 K w0 g v _ w h hT
  · have hne : lvs K q ≠ [] := fun e => by have := congrArg List.length e; rw [lvs_len, hq] at this; exact h0 this
    obtain ⟨P, d, h1, h2⟩ := fold_last (e := sha K []) (node := nodeL K) _ (lvs K q) (Nat.le_refl _) hne
    have hl := pk_len (nodeL K) (lvs K q)
    rw [h1, lvs_len, hq, List.length_append] at hl
    have hl2 : P.length + 1 ≤ n := hl
    have := log_RootS K w0 g n v P d w (by unfold peaksL at h; rw [h1] at h; exact h) hT h0 (by omega)
    rw [h2] at this
    exact this
set_option maxHeartbeats 8000000 in
theorem treeLogs (K : Nat → W32) (l : List Sb) (A : Option Addr) (n c : Nat) (w : World) (hl : l.length = n) (hT : Tabs K w) (hI : Lf w A l c) :
    Calls Tryd.prog 3 #[.slice A n c] w fun e w' => e = .returned (.bool true) ∧ Below w.heap.size w w' := by
  by_cases hlen : 60 < n
  · have hd : decide ((60 : Int) < (n : Int)) = true := by simp; omega
    clear hT hI
    go_enter Tryd.func3, Tryd.ntmps3
    go_wp2
    go_ret
    exact ⟨rfl, Below.refl _ _⟩
  · have hd : decide ((60 : Int) < (n : Int)) = false := by simp; omega
    have hHT := Lib.hid hT
    have hI0 := Lib.hid hI
    have hHl := Lib.hid hl
    have hle := hI.le
    have hmx := hI.mx
    rw [hl] at hle
    have hL0 := Lib.hid (show LogAt w w.heap.size 0 (.slice none 0 0) [] (w.alloc (Obj.cells #[Value.int .i64 0, Value.slice none 0 0] 25)) from
      ⟨by simp [go_sem], by simp [go_sem], World.ownsRow_nil _ _ _ _, fun x hx => by simp at hx, below_alloc _ _, by simp [go_sem], fun i => by simp [go_sem]⟩)
    clear hT hI hl
    go_enter Tryd.func3, Tryd.ntmps3
    go_wp2_with fail
    generalize w.alloc (Obj.cells #[Value.int .i64 0, Value.slice none 0 0] 25) = W0 at *
    have hEi := Lib.hid (show ∀ (x : List UInt8) (ω : World), (Op.equalIn 10000 28 (.agg (dgA x)) (.agg (dgA x))).run Tryd.prog ω = .ok true ω from fun x ω => by unfold dgA; rw [show 10000 = 9998 + 2 from rfl, run_equalIn_arrK Tryd.underlying28 Tryd.underlying5 (by kernel_rfl)]; simp)
    go_loopw [11] (fun vi wr => ∃ (i : Nat) (v : Value), vi = .int .i64 (i : Nat) ∧ i ≤ n ∧ Hid (LogAt w w.heap.size i v (peaksL K (l.take i)) wr)) (fun vi _ => n - (intOf vi).toNat)
    case atStart => exact ⟨0, _, rfl, Nat.zero_le _, hL0⟩
    case round =>
      obtain ⟨i, v, rfl, hin, hL⟩ := hrel
      clear hL0
      have hTr := Lib.hid (hHT.out.step hL.out.bel)
      have hIr := Lib.hid (hI0.out.step hL.out.bel)
      have hli : (l.take i).length = i := by rw [List.length_take]; have := hHl.out; omega
      have hpl := pk_len (nodeL K) (lvs K (l.take i))
      rw [lvs_len, hli] at hpl
      have hRf := Lib.hid (show ∀ ω, Below wr.heap.size wr ω → _ from fun ω hb => log_Root K w w.heap.size i v (l.take i) ω (hL.out.step hb) hli (hTr.out.step hb) (by omega))
      have hRr := Lib.hid (show ∀ ω, Below wr.heap.size wr ω → _ from fun ω hb => ref_Root K (l.take i) A i c ω hli (by omega) (hTr.out.step hb) ((hIr.out.step hb).take i))
      have hPr := Lib.hid (show ∀ ω, Below wr.heap.size wr ω → _ from fun ω hb => ref_Peaks K (l.take i) A i c ω hli (by omega) (hTr.out.step hb) ((hIr.out.step hb).take i))
      by_cases hc : i < n
      · have d1 : decide ((i : Int) < (n : Int)) = true := by simp; omega
        have hz1 : (0 : Int) ≤ (i : Int) := by omega
        have hz2 : (i : Int) < (n : Int) := by omega
        have ht : ((i : Nat) : Int).toNat = i := by simp
        have hs0 := Lib.hid (fun V => sl_to SLf A n c i (i : Nat) (by omega) (by omega) (by simp) V)
        have hil : i < l.length := by have := hHl.out; omega
        obtain ⟨ad, rfl, -, hcell⟩ := hIr.out.at_ hil
        obtain ⟨x, hx⟩ : ∃ x, l[i]? = some x := ⟨_, List.getElem?_eq_getElem hil⟩
        have hxe : l[i] = x := by simpa [List.getElem?_eq_getElem hil] using hx
        rw [hxe] at hcell
        obtain ⟨hxb, hxw⟩ := hI0.out.body x (List.mem_of_getElem? hx)
        have hadd := Lib.hid (show ∀ w' v', LogAt w w.heap.size (i + 1) v' (pkP (nodeL K) (lvs K (l.take i) ++ [leafL K x.body])) w' → LogAt w w.heap.size (i + 1) v' (peaksL K (l.take (i + 1))) w' from fun w' v' h => by
          have e : lvs K (l.take i) ++ [leafL K x.body] = lvs K (l.take (i + 1)) := by
            unfold lvs
            rw [List.take_add_one, hx, List.map_append]
            rfl
          rw [e] at h
          exact h)
        have hHx := Lib.hid hxb
        have hlv := Lib.hid ((lvs_len K (l.take i)).trans hli)
        obtain ⟨xA, xc, xb⟩ := x
        have hcell2 : wr.cell? (ad.add i) = some (.slice xA xb.length xc) := hcell
        obtain ⟨xn, hxn⟩ : ∃ xn, xb.length = xn := ⟨_, rfl⟩
        rw [hxn] at hcell2
        have hHxn := Lib.hid hxn
        have hw1 : IntKind.i64.wrap ((i : Int) + 1) = (i : Int) + 1 := by rw [IntKind.wrap_i64]; omega
        have hP60 : (peaksL K (l.take i)).length ≤ 1000000 := by unfold peaksL; omega
        have hsv := Lib.hid (show LogAt w w.heap.size i v (pkP (nodeL K) (lvs K (l.take i))) wr from hL.out)
        generalize peaksL K (l.take i) = P at *
        generalize rootL K (l.take i) = R at *
        clear hx hxe hcell hxb hxw hxn hpl
        go_wp2_with fail
        generalize ha0 : Act.mk _ _ = a0
        have e0 : a0.tmps[0]?.getD undef = .slice (some ad) n c := by rw [← ha0]; rfl
        have e3 : a0.tmps[3]?.getD undef = .pointer (some ⟨w.heap.size, 0, none⟩) := by rw [← ha0]; rfl
        have e4 : a0.tmps[4]?.getD undef = .int .i64 (i : Nat) := by rw [← ha0]; rfl
        have e5 : a0.tmps[5]?.getD undef = .slice xA xn xc := by rw [← ha0]; rfl
        have hz0 : a0.tmps.size = 58 := by rw [← ha0]; rfl
        have hha0 := Lib.hid ha0
        clear ha0
        refine wp_region_tailL (fun jx_ => match jx_ with | 0 => SRel.is (.int .i64 (i : Nat)) | 1 => SRel.is (.int .i64 (i : Nat)) | 2 => SRel.is (.bool false) | 3 => SRel.is (.bool false) | 4 => SRel.is (.agg (dgA R)) | 5 => SRel.is (.slice (some ad) n c) | 6 => SRel.is (.int .i64 (i : Nat)) | 7 => SRel.is (.slice (some ad) i c) | 8 => SRel.is (.agg (dgA R)) | 9 => SRel.is (.bool false) | 10 => SRel.is (.bool false) | 11 => SRel.is (.bool false) | 12 => SRel.pt P | 13 => SRel.is (.slice (some ad) n c) | 14 => SRel.is (.int .i64 (i : Nat)) | 15 => SRel.is (.slice (some ad) i c) | 16 => SRel.pt P | 17 => SRel.is (.bool true) | 18 => SRel.is (.bool false) | 19 => SRel.is (.bool false) | 20 => SRel.is (.bool false) | 21 => SRel.is (.slice xA xn xc) | 22 => SRel.any | 23 => SRel.any | 24 => SRel.any | _ => SRel.any) 22 (by kernel_rfl) (by kernel_rfl) (by kernel_rfl) (slotsOk_of hz0 (by kernel_rfl)) (by kernel_rfl) (of_decide_eq_true (by kernel_rfl)) ⟨?_, ?_, ?_, ?_, ?_, ?_, ?_, ?_, ?_, ?_, ?_, ?_, ?_, ?_, ?_, ?_, ?_, ?_, ?_, ?_, ?_, ?_, trivial⟩ ?_
        · refine calmL_step rfl fun a ω κ hb hu hc hK => ?_
          have h3 : a.tmps[3]?.getD undef = .pointer (some ⟨w.heap.size, 0, none⟩) := (hu 3 rfl).trans e3
          have hk := Lib.hid (fun w1 (h : Below ω.heap.size ω w1) => hK (.int .i64 (i : Nat)) w1 rfl h)
          clear hK hu hc
          go_simp
          go_at_call 7
          refine (log_Len _ _ _ _ _ ω (hL.out.step hb)).mono ?_
          rintro e w1 ⟨rfl, rfl⟩
          exact hk.out _ (Below.refl _ _)
        · refine calmL_step rfl fun a ω κ hb hu hc hK => ?_
          have h4 : a.tmps[4]?.getD undef = .int .i64 (i : Nat) := (hu 4 rfl).trans e4
          have hk := Lib.hid (fun w1 (h : Below ω.heap.size ω w1) => hK (.int .i64 (i : Nat)) w1 rfl h)
          clear hK hu hc
          go_simp
          exact hk.out _ (Below.refl _ _)
        · refine calmL_step rfl fun a ω κ hb hu hc hK => ?_
          have h16 : a.tmps[16]?.getD undef = .int .i64 (i : Nat) := hc 0 16 rfl rfl
          have h17 : a.tmps[17]?.getD undef = .int .i64 (i : Nat) := hc 1 17 rfl rfl
          have hk := Lib.hid (fun w1 (h : Below ω.heap.size ω w1) => hK (.bool false) w1 rfl h)
          clear hK hu hc
          have hq : ((i : Int) != (i : Int)) = false := by simp
          go_simp
          exact hk.out _ (Below.refl _ _)
        · refine calmL_step rfl fun a ω κ hb hu hc hK => ?_
          have h18 : a.tmps[18]?.getD undef = .bool false := hc 2 18 rfl rfl
          have hk := Lib.hid (fun w1 (h : Below ω.heap.size ω w1) => hK (.bool false) w1 rfl h)
          clear hK hu hc
          go_simp
          exact hk.out _ (Below.refl _ _)
        · refine calmL_step_guard (g := 3) (b := false) (d := 19) rfl rfl (fun a w hc => hc 3 19 rfl rfl) fun a ω κ hb hu hc hK => ?_
          have h3 : a.tmps[3]?.getD undef = .pointer (some ⟨w.heap.size, 0, none⟩) := (hu 3 rfl).trans e3
          have hk := Lib.hid (fun w1 (h : Below ω.heap.size ω w1) => hK (.agg (dgA R)) w1 rfl h)
          clear hK hu hc
          go_simp
          go_at_call 8
          refine (hRf.out ω hb).mono ?_
          rintro e w1 ⟨rfl, hb1⟩
          exact hk.out _ hb1
        · refine calmL_step_guard (g := 3) (b := false) (d := 19) rfl rfl (fun a w hc => hc 3 19 rfl rfl) fun a ω κ hb hu hc hK => ?_
          have h0 : a.tmps[0]?.getD undef = .slice (some ad) n c := (hu 0 rfl).trans e0
          have hk := Lib.hid (fun w1 (h : Below ω.heap.size ω w1) => hK (.slice (some ad) n c) w1 rfl h)
          clear hK hu hc
          go_simp
          exact hk.out _ (Below.refl _ _)
        · refine calmL_step_guard (g := 3) (b := false) (d := 19) rfl rfl (fun a w hc => hc 3 19 rfl rfl) fun a ω κ hb hu hc hK => ?_
          have h4 : a.tmps[4]?.getD undef = .int .i64 (i : Nat) := (hu 4 rfl).trans e4
          have hk := Lib.hid (fun w1 (h : Below ω.heap.size ω w1) => hK (.int .i64 (i : Nat)) w1 rfl h)
          clear hK hu hc
          go_simp
          exact hk.out _ (Below.refl _ _)
        · refine calmL_step_guard (g := 3) (b := false) (d := 19) rfl rfl (fun a w hc => hc 3 19 rfl rfl) fun a ω κ hb hu hc hK => ?_
          have h21 : a.tmps[21]?.getD undef = .slice (some ad) n c := hc 5 21 rfl rfl
          have h22 : a.tmps[22]?.getD undef = .int .i64 (i : Nat) := hc 6 22 rfl rfl
          have hk := Lib.hid (fun w1 (h : Below ω.heap.size ω w1) => hK (.slice (some ad) i c) w1 rfl h)
          clear hK hu hc
          have hs := hs0.out ω
          go_simp
          exact hk.out _ (Below.refl _ _)
        · refine calmL_step_guard (g := 3) (b := false) (d := 19) rfl rfl (fun a w hc => hc 3 19 rfl rfl) fun a ω κ hb hu hc hK => ?_
          have h23 : a.tmps[23]?.getD undef = .slice (some ad) i c := hc 7 23 rfl rfl
          have hk := Lib.hid (fun w1 (h : Below ω.heap.size ω w1) => hK (.agg (dgA R)) w1 rfl h)
          clear hK hu hc
          go_simp
          go_at_call 9
          refine (hRr.out ω hb).mono ?_
          rintro e w1 ⟨rfl, hb1⟩
          exact hk.out _ hb1
        · refine calmL_step_guard (g := 3) (b := false) (d := 19) rfl rfl (fun a w hc => hc 3 19 rfl rfl) fun a ω κ hb hu hc hK => ?_
          have h20 : a.tmps[20]?.getD undef = .agg (dgA R) := hc 4 20 rfl rfl
          have h24 : a.tmps[24]?.getD undef = .agg (dgA R) := hc 8 24 rfl rfl
          have hk := Lib.hid (fun w1 (h : Below ω.heap.size ω w1) => hK (.bool false) w1 rfl h)
          clear hK hu hc
          have hq := hEi.out R ω
          go_simp
          exact hk.out _ (Below.refl _ _)
        · refine calmL_step rfl fun a ω κ hb hu hc hK => ?_
          have h19 : a.tmps[19]?.getD undef = .bool false := hc 3 19 rfl rfl
          have h25 : a.tmps[25]?.getD undef = .bool false := hc 9 25 rfl rfl
          have hk := Lib.hid (fun w1 (h : Below ω.heap.size ω w1) => hK (.bool false) w1 rfl h)
          clear hK hu hc
          go_simp
          exact hk.out _ (Below.refl _ _)
        · refine calmL_step rfl fun a ω κ hb hu hc hK => ?_
          have h26 : a.tmps[26]?.getD undef = .bool false := hc 10 26 rfl rfl
          have hk := Lib.hid (fun w1 (h : Below ω.heap.size ω w1) => hK (.bool false) w1 rfl h)
          clear hK hu hc
          go_simp
          exact hk.out _ (Below.refl _ _)
        · refine calmL_step_guard (g := 11) (b := false) (d := 27) rfl rfl (fun a w hc => hc 11 27 rfl rfl) fun a ω κ hb hu hc hK => ?_
          have h3 : a.tmps[3]?.getD undef = .pointer (some ⟨w.heap.size, 0, none⟩) := (hu 3 rfl).trans e3
          have hk := Lib.hid (fun v w1 (hv : (SRel.pt P).p v w1) (h : Below ω.heap.size ω w1) => hK v w1 hv h)
          clear hK hu hc
          go_simp
          go_at_call 11
          refine (log_Peaks _ _ _ _ P ω (hL.out.step hb) hP60).mono ?_
          rintro e w1 ⟨v1, rfl, hO1⟩
          exact hk.out _ _ hO1.rel hO1.bel
        · refine calmL_step_guard (g := 11) (b := false) (d := 27) rfl rfl (fun a w hc => hc 11 27 rfl rfl) fun a ω κ hb hu hc hK => ?_
          have h0 : a.tmps[0]?.getD undef = .slice (some ad) n c := (hu 0 rfl).trans e0
          have hk := Lib.hid (fun w1 (h : Below ω.heap.size ω w1) => hK (.slice (some ad) n c) w1 rfl h)
          clear hK hu hc
          go_simp
          exact hk.out _ (Below.refl _ _)
        · refine calmL_step_guard (g := 11) (b := false) (d := 27) rfl rfl (fun a w hc => hc 11 27 rfl rfl) fun a ω κ hb hu hc hK => ?_
          have h4 : a.tmps[4]?.getD undef = .int .i64 (i : Nat) := (hu 4 rfl).trans e4
          have hk := Lib.hid (fun w1 (h : Below ω.heap.size ω w1) => hK (.int .i64 (i : Nat)) w1 rfl h)
          clear hK hu hc
          go_simp
          exact hk.out _ (Below.refl _ _)
        · refine calmL_step_guard (g := 11) (b := false) (d := 27) rfl rfl (fun a w hc => hc 11 27 rfl rfl) fun a ω κ hb hu hc hK => ?_
          have h29 : a.tmps[29]?.getD undef = .slice (some ad) n c := hc 13 29 rfl rfl
          have h30 : a.tmps[30]?.getD undef = .int .i64 (i : Nat) := hc 14 30 rfl rfl
          have hk := Lib.hid (fun w1 (h : Below ω.heap.size ω w1) => hK (.slice (some ad) i c) w1 rfl h)
          clear hK hu hc
          have hs := hs0.out ω
          go_simp
          exact hk.out _ (Below.refl _ _)
        · refine calmL_step_guard (g := 11) (b := false) (d := 27) rfl rfl (fun a w hc => hc 11 27 rfl rfl) fun a ω κ hb hu hc hK => ?_
          have h31 : a.tmps[31]?.getD undef = .slice (some ad) i c := hc 15 31 rfl rfl
          have hk := Lib.hid (fun v w1 (hv : (SRel.pt P).p v w1) (h : Below ω.heap.size ω w1) => hK v w1 hv h)
          clear hK hu hc
          go_simp
          go_at_call 12
          refine (hPr.out ω hb).mono ?_
          rintro e w1 ⟨v1, rfl, hO1⟩
          exact hk.out _ _ hO1.rel hO1.bel
        · refine calmL_step_guard (g := 11) (b := false) (d := 27) rfl rfl (fun a w hc => hc 11 27 rfl rfl) fun a ω κ hb hu hc hK => ?_
          have h28 : (SRel.pt P).p (a.tmps[28]?.getD undef) ω := hc 12 28 rfl rfl
          have h32 : (SRel.pt P).p (a.tmps[32]?.getD undef) ω := hc 16 32 rfl rfl
          have hk := Lib.hid (fun w1 (h : Below ω.heap.size ω w1) => hK (.bool true) w1 rfl h)
          clear hK hu hc
          obtain ⟨A1, c1, q1, hp1⟩ := h28
          obtain ⟨A2, c2, q2, hp2⟩ := h32
          go_simp
          go_at_call 10
          refine (eq_digests A1 A2 P c1 c2 ω hp1 hp2 hP60).mono ?_
          rintro e w1 ⟨rfl, hb1⟩
          exact hk.out _ hb1
        · refine calmL_step_guard (g := 11) (b := false) (d := 27) rfl rfl (fun a w hc => hc 11 27 rfl rfl) fun a ω κ hb hu hc hK => ?_
          have h33 : a.tmps[33]?.getD undef = .bool true := hc 17 33 rfl rfl
          have hk := Lib.hid (fun w1 (h : Below ω.heap.size ω w1) => hK (.bool false) w1 rfl h)
          clear hK hu hc
          go_simp
          exact hk.out _ (Below.refl _ _)
        · refine calmL_step rfl fun a ω κ hb hu hc hK => ?_
          have h27 : a.tmps[27]?.getD undef = .bool false := hc 11 27 rfl rfl
          have h34 : a.tmps[34]?.getD undef = .bool false := hc 18 34 rfl rfl
          have hk := Lib.hid (fun w1 (h : Below ω.heap.size ω w1) => hK (.bool false) w1 rfl h)
          clear hK hu hc
          go_simp
          exact hk.out _ (Below.refl _ _)
        · refine calmL_step rfl fun a ω κ hb hu hc hK => ?_
          have h35 : a.tmps[35]?.getD undef = .bool false := hc 19 35 rfl rfl
          have hk := Lib.hid (fun w1 (h : Below ω.heap.size ω w1) => hK (.bool false) w1 rfl h)
          clear hK hu hc
          go_simp
          exact hk.out _ (Below.refl _ _)
        · refine calmL_step_guard (g := 20) (b := false) (d := 36) rfl rfl (fun a w hc => hc 20 36 rfl rfl) fun a ω κ hb hu hc hK => ?_
          have h5 : a.tmps[5]?.getD undef = .slice xA xn xc := (hu 5 rfl).trans e5
          have hk := Lib.hid (fun w1 (h : Below ω.heap.size ω w1) => hK (.slice xA xn xc) w1 rfl h)
          clear hK hu hc
          go_simp
          exact hk.out _ (Below.refl _ _)
        · intro aa ω hb hu hsz hdf hc
          have h16 : aa.tmps[16]?.getD undef = .int .i64 (i : Nat) := hc 0 16 (by decide) rfl
          have h17 : aa.tmps[17]?.getD undef = .int .i64 (i : Nat) := hc 1 17 (by decide) rfl
          have h18 : aa.tmps[18]?.getD undef = .bool false := hc 2 18 (by decide) rfl
          have h19 : aa.tmps[19]?.getD undef = .bool false := hc 3 19 (by decide) rfl
          have h20 : aa.tmps[20]?.getD undef = .agg (dgA R) := hc 4 20 (by decide) rfl
          have h21 : aa.tmps[21]?.getD undef = .slice (some ad) n c := hc 5 21 (by decide) rfl
          have h22 : aa.tmps[22]?.getD undef = .int .i64 (i : Nat) := hc 6 22 (by decide) rfl
          have h23 : aa.tmps[23]?.getD undef = .slice (some ad) i c := hc 7 23 (by decide) rfl
          have h24 : aa.tmps[24]?.getD undef = .agg (dgA R) := hc 8 24 (by decide) rfl
          have h25 : aa.tmps[25]?.getD undef = .bool false := hc 9 25 (by decide) rfl
          have h26 : aa.tmps[26]?.getD undef = .bool false := hc 10 26 (by decide) rfl
          have h27 : aa.tmps[27]?.getD undef = .bool false := hc 11 27 (by decide) rfl
          have h29 : aa.tmps[29]?.getD undef = .slice (some ad) n c := hc 13 29 (by decide) rfl
          have h30 : aa.tmps[30]?.getD undef = .int .i64 (i : Nat) := hc 14 30 (by decide) rfl
          have h31 : aa.tmps[31]?.getD undef = .slice (some ad) i c := hc 15 31 (by decide) rfl
          have h33 : aa.tmps[33]?.getD undef = .bool true := hc 17 33 (by decide) rfl
          have h34 : aa.tmps[34]?.getD undef = .bool false := hc 18 34 (by decide) rfl
          have h35 : aa.tmps[35]?.getD undef = .bool false := hc 19 35 (by decide) rfl
          have h36 : aa.tmps[36]?.getD undef = .bool false := hc 20 36 (by decide) rfl
          have h37 : aa.tmps[37]?.getD undef = .slice xA xn xc := hc 21 37 (by decide) rfl
          have ha0 := hha0.out
          subst ha0
          have he := act_patchL (n := 58) 22 [false, false, false, false, false, false, false, false, false, false, false, false, false, false, false, false, true, true, true, true, true, true, true, true, true, true, true, true, true, true, true, true, true, true, true, true, true, true, false, false, false, false, false, false, false, false, false, false, false, false, false, false, false, false, false, false, false, false] rfl (by kernel_rfl) hu hsz hdf
          simp only [patch, cond_true, cond_false, Nat.reduceAdd] at he
          clear hu hsz hdf hc hha0 e0 e3 e4 e5 hz0
          rw [he]
          clear he
          generalize aa.tmps[16]?.getD undef = x16 at *
          generalize aa.tmps[17]?.getD undef = x17 at *
          generalize aa.tmps[18]?.getD undef = x18 at *
          generalize aa.tmps[19]?.getD undef = x19 at *
          generalize aa.tmps[20]?.getD undef = x20 at *
          generalize aa.tmps[21]?.getD undef = x21 at *
          generalize aa.tmps[22]?.getD undef = x22 at *
          generalize aa.tmps[23]?.getD undef = x23 at *
          generalize aa.tmps[24]?.getD undef = x24 at *
          generalize aa.tmps[25]?.getD undef = x25 at *
          generalize aa.tmps[26]?.getD undef = x26 at *
          generalize aa.tmps[27]?.getD undef = x27 at *
          generalize aa.tmps[28]?.getD undef = x28 at *
          generalize aa.tmps[29]?.getD undef = x29 at *
          generalize aa.tmps[30]?.getD undef = x30 at *
          generalize aa.tmps[31]?.getD undef = x31 at *
          generalize aa.tmps[32]?.getD undef = x32 at *
          generalize aa.tmps[33]?.getD undef = x33 at *
          generalize aa.tmps[34]?.getD undef = x34 at *
          generalize aa.tmps[35]?.getD undef = x35 at *
          generalize aa.tmps[36]?.getD undef = x36 at *
          generalize aa.tmps[37]?.getD undef = x37 at *
          subst h16 h17 h18 h19 h20 h21 h22 h23 h24 h25 h26 h27 h29 h30 h31 h33 h34 h35 h36 h37
          clear hRf hRr hPr hEi hs0 hTr hIr hI0
          dsimp only [List.drop]
          go_wp2_with fail
          refine (log_Add K w w.heap.size i v (lvs K (l.take i)) xA xb xn xc ω (hsv.out.step hb) hlv.out (by omega) hHT.out (Nat.le_refl _) hHx.out hHxn.out).mono ?_
          rintro e w' ⟨v', rfl, hL'⟩
          have hL2 := Lib.hid (hadd.out _ _ hL')
          clear hL' hadd hsv hL hb hcell2
          go_wp2_with fail
          go_roundw
          case rel => exact ⟨i + 1, v', rfl, by omega, hL2⟩
          case measure => simp [intOf]; omega
      · have hin2 : i = n := by omega
        subst hin2
        have d1 : decide ((i : Int) < (i : Int)) = false := by simp
        have hP60 : (peaksL K (l.take i)).length ≤ 1000000 := by unfold peaksL; omega
        have hfin := Lib.hid hL.out.bel
        generalize peaksL K (l.take i) = P at *
        generalize rootL K (l.take i) = R at *
        clear hpl
        go_wp2_with fail
        refine (log_Len _ _ _ _ _ wr hL.out).mono ?_
        rintro e w1 ⟨rfl, rfl⟩
        have hq : ((i : Int) == (i : Int)) = true := by simp
        go_wp2_with fail
        refine (hRf.out _ (Below.refl _ _)).mono ?_
        rintro e w2 ⟨rfl, hb2⟩
        go_wp2_with fail
        refine (hRr.out _ hb2).mono ?_
        rintro e w3 ⟨rfl, hb3⟩
        have hb4 := below_step hb3 hb2 (Nat.le_refl _)
        have hE3 := hEi.out R w3
        go_wp2_with fail
        refine (log_Peaks _ _ _ _ P w3 (hL.out.step hb4) hP60).mono ?_
        rintro e w5 ⟨v5, rfl, hO5⟩
        obtain ⟨A5, c5, rfl, -, -⟩ := hO5.form
        have hb5 := below_step hO5.bel hb4 (Nat.le_refl _)
        have hp5 := Lib.hid hO5.pt
        clear hO5
        go_wp2_with fail
        refine (hPr.out _ hb5).mono ?_
        rintro e w6 ⟨v6, rfl, hO6⟩
        obtain ⟨A6, c6, rfl, -, -⟩ := hO6.form
        have hb6 := below_step hO6.bel hb5 (Nat.le_refl _)
        have hp6 := Lib.hid hO6.pt
        have hp7 := Lib.hid (hp5.out.step hO6.bel)
        clear hO6 hE3
        go_wp2_with fail
        refine (eq_digests A5 A6 P c5 c6 w6 hp7.out hp6.out hP60).mono ?_
        rintro e w7 ⟨rfl, hb7⟩
        go_wp2
        go_ret
        exact ⟨rfl, below_step (below_step hb7 hb6 (Nat.le_refl _)) hfin.out (Nat.le_refl _)⟩
end Go.Proofs.YtjihklaocgmlpaaDoor
