/- Cards of attributes: CardOf, Attrs, Upon. -/
import Derived.Test.YtdlmamnnamlleaaRu3
import Derived.Test.YtdlmamnnamlleaaRu4
import Derived.Test.YtdlmamnnamlleaaRet2
import Derived.RegionTactic
namespace Go.Proofs.Ytdlmamnnamlleaa
open Go.ChangeShapes Go.WideShapes Go.ChangeAt Go.RowKit
set_option maxHeartbeats 1000000
set_option maxRecDepth 100000
attribute [local go_sem] kp_refl kp_alloc kp_setCell kp_drew kp_drewN row_new row_old rowAt_new rowAt_old
attribute [local go_sem ↓] load_Crd store_Crd execl_Crd execs_Crd
attribute [local go_sem] isHead_mk blkOf_mk isAgg_mk cellsV_mk row_drew rowAt_drew row_new_cells setRow_new

/-! CardOf -/
def lookK (l : List KV) (k : Int) : Option (List UInt8) := (l.find? fun x => x.1 == k).map (·.2)
theorem look_kv (l : List At) (k : Int) : look l k = lookK (l.map At.kv) k := by
  unfold look lookK
  rw [List.find?_map]
  cases h : l.find? ((fun x : KV => x.1 == k) ∘ At.kv) with
  | none => rw [show l.find? (fun x => x.kind == k) = none from h]; rfl
  | some x => rw [show l.find? (fun x => x.kind == k) = some x from h]; rfl
def inK (k : Nat) : Bool := decide (1 ≤ k) && decide (k ≤ 18)
def cardOf (l : List KV) : Crd := ⟨fun k => inK k && (lookK l k).isSome, fun k => if inK k = true then (lookK l k).getD [] else []⟩
theorem lookK_snoc (l : List KV) (x : KV) (k : Int) : lookK (l ++ [x]) k = (lookK l k).or (if x.1 == k then some x.2 else none) := by
  unfold lookK
  rw [List.find?_append]
  cases h : l.find? (fun x => x.1 == k) with
  | some y => simp
  | none =>
    cases h2 : (x.1 == k) <;> simp [List.find?, h2]
theorem cardOf_nil : cardOf [] = crd0 := by
  unfold cardOf crd0
  congr 1
  · funext k; simp [lookK]
  · funext k; simp [lookK]
theorem cardOf_skip {l : List KV} {x : KV} (h : x.1 < 1 ∨ 18 < x.1) : cardOf (l ++ [x]) = cardOf l := by
  have key : ∀ k : Nat, inK k = true → lookK (l ++ [x]) k = lookK l k := fun k hk => by
    rw [lookK_snoc]
    simp only [inK, Bool.and_eq_true, decide_eq_true_eq] at hk
    have : (x.1 == (k : Int)) = false := by simp; omega
    rw [this]; simp
  unfold cardOf
  congr 1
  · funext k
    cases hk : inK k
    · rfl
    · rw [key k hk]
  · funext k
    by_cases hk : inK k = true
    · rw [if_pos hk, if_pos hk, key k hk]
    · rw [if_neg hk, if_neg hk]
theorem cardOf_old {l : List KV} {x : KV} {n : Nat} (hn : x.1 = n) (h : (cardOf l).has n = true) : cardOf (l ++ [x]) = cardOf l := by
  have key : ∀ k : Nat, lookK (l ++ [x]) k = lookK l k := fun k => by
    rw [lookK_snoc]
    by_cases e : k = n
    · subst e
      have h2 : (lookK l (k : Int)).isSome = true := by simp only [cardOf, Bool.and_eq_true] at h; exact h.2
      obtain ⟨b, hb⟩ := Option.isSome_iff_exists.1 h2
      rw [hb]; rfl
    · have : (x.1 == (k : Int)) = false := by rw [hn]; simp; omega
      rw [this]; simp
  unfold cardOf
  congr 1
  · funext k; rw [key k]
  · funext k; rw [key k]
def updH (f : Nat → Bool) (n : Nat) : Nat → Bool := fun k => if k = n then true else f k
def updB (f : Nat → List UInt8) (n : Nat) (b : List UInt8) : Nat → List UInt8 := fun k => if k = n then b else f k
theorem cardOf_new {l : List KV} {x : KV} {n : Nat} (hn : x.1 = n) (hin : inK n = true) (h : (cardOf l).has n = false) : cardOf (l ++ [x]) = ⟨updH (cardOf l).has n, updB (cardOf l).v n x.2⟩ := by
  have hnone : lookK l (n : Int) = none := by
    simp only [cardOf, hin, Bool.true_and] at h
    cases h2 : lookK l (n : Int) with
    | none => rfl
    | some b => rw [h2] at h; cases h
  have key : ∀ k : Nat, lookK (l ++ [x]) k = if k = n then some x.2 else lookK l k := fun k => by
    rw [lookK_snoc]
    by_cases e : k = n
    · subst e
      rw [hnone, hn]; simp
    · have : (x.1 == (k : Int)) = false := by rw [hn]; simp; omega
      rw [this, if_neg e]; simp
  unfold cardOf
  congr 1
  · funext k
    unfold updH
    rw [key k]
    by_cases e : k = n
    · subst e; simp [hin]
    · rw [if_neg e, if_neg e]
  · funext k
    unfold updB
    rw [key k]
    by_cases e : k = n
    · subst e; simp [hin]
    · rw [if_neg e, if_neg e]
theorem cf_upd {w : World} {g : Nat} (c : Crd) {n : Nat} (hn : n < 19) (b : List UInt8) : Fa w g 38 (updV (updV (cf c) n (.bool true)) (19 + n) (strV b)) → CrdAt w g ⟨updH c.has n, updB c.v n b⟩ := fun h => h.congr fun i hi => by
  simp only [updV, cf, updH, updB]
  by_cases h1 : i = 19 + n
  · subst h1
    rw [if_pos rfl, if_neg (by omega), Nat.add_sub_cancel_left]; simp
  · rw [if_neg h1]
    by_cases h2 : i = n
    · subst h2; rw [if_pos rfl, if_pos hn]; simp
    · rw [if_neg h2]
      by_cases h3 : i < 19
      · rw [if_pos h3, if_pos h3]; simp [h2]
      · rw [if_neg h3, if_neg h3, if_neg (show ¬ i - 19 = n by omega)]

theorem ref_CardOf (A : Option Addr) (l : List At) (c : Nat) (w : World) (h : Ats w w.heap.size A l) (hl : l.length ≤ 9223372036854775807) :
    Calls Try.prog 30 #[.slice A l.length c] w fun e w' => e = .returned (.agg (crdA (cardOf (l.map At.kv)))) ∧ Below w.heap.size w w' := by
  have hz := crd_cells crd0
  go_enter Try.func30, Try.ntmps30
  go_wp2
  rw [crd_zero]
  have h0 : CrdAt ((w.alloc (.cells (crdA crd0) 40)).alloc (.cells (crdA crd0) 40)) (w.heap.size + 1) (cardOf ((l.map At.kv).take 0)) := by rw [List.take_zero, cardOf_nil]; exact Fa.new (m := 38) (f := cf crd0) _ (by simp)
  have hr0 : Row ((w.alloc (.cells (crdA crd0) 40)).alloc (.cells (crdA crd0) 40)) w.heap.size 38 := (row_old (by simp)).2 ((row_new rfl).2 hz.1)
  go_loopw [8] (fun x wr => ∃ j : Nat, x = .int .i64 j ∧ j ≤ l.length ∧ Below w.heap.size w wr ∧ w.heap.size + 1 < wr.heap.size ∧ Row wr w.heap.size 38 ∧ CrdAt wr (w.heap.size + 1) (cardOf ((l.map At.kv).take j))) (fun x _ => l.length - (intOf x).toNat)
  case atStart => exact ⟨0, rfl, by omega, by go_grown, by simp, hr0, h0⟩
  case round =>
    obtain ⟨j, rfl, hj, hb, hs, hr, hC⟩ := hrel
    by_cases hji : j = l.length
    · have hat := hC.at_
      have hrC := hC.row
      have hcc := crd_cells (cardOf ((l.map At.kv).take j))
      rw [List.take_of_length_le (by simp; omega)] at hat hcc
      generalize hCe : cardOf (l.map At.kv) = C at hat hcc
      replace hCe := Lib.hid hCe
      subst hji
      go_wp2
      exact ret_stored (p := 2) (ty := 40) (g := w.heap.size) (n := 38) (c := crdA C) rfl Try.underlying40 rfl (by kernel_rfl) rfl hr hcc.1 rfl ⟨by rw [hCe.out], below_setRow hb (Nat.le_refl _)⟩
    · have hjl : j < l.length := by omega
      have hw := h.kp (kp_of_below hb)
      obtain ⟨ad, rfl, hbl, c1, c2⟩ := hw.at_ hjl
      obtain ⟨b1, b2, b3⟩ := hw.body _ (List.getElem_mem hjl)
      have hsn := Lib.hid (take_snoc l hjl)
      generalize l[j] = x at *
      obtain ⟨xk, xA, xc, xb⟩ := x
      simp only [At.kv] at c1 c2 b1 b2 b3 hsn
      have hB0 := below_alloc' wr (.cells #[.int .i64 xk, .slice xA xb.length xc] 120)
      have hrow' : Row (wr.alloc (.cells #[.int .i64 xk, .slice xA xb.length xc] 120)) w.heap.size 38 := (row_old (by omega)).2 hr
      have hC' : CrdAt (wr.alloc (.cells #[.int .i64 xk, .slice xA xb.length xc] 120)) (w.heap.size + 1) _ := Fa.old hC _
      by_cases hk1 : xk < 1
      · have hcd : Hid (cardOf ((l.map At.kv).take (j + 1)) = cardOf ((l.map At.kv).take j)) := by show _ = _; rw [hsn.out]; exact cardOf_skip (.inl hk1)
        go_wp2
        go_roundw
        case rel => exact ⟨j + 1, by go_num, by omega, by go_grown, by simp; omega, hrow', by rw [hcd.out]; exact hC'⟩
        case measure => simp [intOf]; omega
      by_cases hk2 : 18 < xk
      · have hcd : Hid (cardOf ((l.map At.kv).take (j + 1)) = cardOf ((l.map At.kv).take j)) := by show _ = _; rw [hsn.out]; exact cardOf_skip (.inr hk2)
        go_wp2
        go_roundw
        case rel => exact ⟨j + 1, by go_num, by omega, by go_grown, by simp; omega, hrow', by rw [hcd.out]; exact hC'⟩
        case measure => simp [intOf]; omega
      obtain ⟨n, rfl⟩ : ∃ n : Nat, xk = n := ⟨xk.toNat, by omega⟩
      have hin : Hid (inK n = true) := by show inK n = true; simp [inK]; omega
      have hn19 : n < 19 := by omega
      have hcH := hC'.cellH hn19
      cases hh : (cardOf ((l.map At.kv).take j)).has n with
      | true =>
        rw [hh] at hcH
        have hcd : Hid (cardOf ((l.map At.kv).take (j + 1)) = cardOf ((l.map At.kv).take j)) := by show _ = _; rw [hsn.out]; exact cardOf_old rfl hh
        clear hh
        go_wp2
        go_roundw
        case rel => exact ⟨j + 1, by go_num, by omega, by go_grown, by simp; omega, hrow', by rw [hcd.out]; exact hC'⟩
        case measure => simp [intOf]; omega
      | false =>
        rw [hh] at hcH
        have hcV := hC'.cellV hn19
        have hf1 := Fa.frozen hC' n
        have hf2 := Fa.frozen hC' (19 + n)
        have hcd : Hid (cardOf ((l.map At.kv).take (j + 1)) = ⟨updH (cardOf ((l.map At.kv).take j)).has n, updB (cardOf ((l.map At.kv).take j)).v n xb⟩) := by show _ = _; rw [hsn.out]; exact cardOf_new rfl hin.out hh
        have hcv : ∀ W : World, Kp w.heap.size wr W → (convert 59 9 (.slice xA xb.length xc)).run Try.prog W = .ok (strV xb) W := fun W hW => conv_rd Try.underlying59 Try.underlying5 Try.underlying9 (b1.kp hW)
        have hcv2 := hcv ((wr.alloc (.cells #[.int .i64 (n : Int), .slice xA xb.length xc] 120)).drew) (fun k hk => (Below.heap_alloc wr _ k (by omega)))
        have hcv3 := hcv (((wr.setCell ⟨w.heap.size + 1, n, none⟩ (.bool true)).alloc (.cells #[.int .i64 (n : Int), .slice xA xb.length xc] 120)).drew) (fun k hk => (Below.heap_alloc (wr.setCell ⟨w.heap.size + 1, n, none⟩ (.bool true)) _ k (by simp; omega)).trans (Below.heap_setCell wr ⟨w.heap.size + 1, n, none⟩ _ k (by show k ≠ w.heap.size + 1; omega)))
        have hfin := Lib.hid (Fa.drew (Fa.old (cf_upd _ hn19 xb ((Fa.set hC n (.bool true)).set (19 + n) (strV xb))) (.cells #[.int .i64 (n : Int), .slice xA xb.length xc] 120)))
        have hrow2 := Lib.hid (show Row ((((wr.setCell ⟨w.heap.size + 1, n, none⟩ (.bool true)).setCell ⟨w.heap.size + 1, 19 + n, none⟩ (strV xb)).alloc (.cells #[.int .i64 (n : Int), .slice xA xb.length xc] 120)).drew) w.heap.size 38 from (row_old (by simp; omega)).2 (row_setCell.2 (row_setCell.2 hr)))
        clear hh
        have hcV2 := hC.cellV hn19
        have hf3 := Fa.frozen hC n
        have hf4 := Fa.frozen hC (19 + n)
        have hcH2 := hC.cellH hn19
        generalize (cardOf ((l.map At.kv).take j)).v n = vold at hcV hcV2
        generalize (cardOf ((l.map At.kv).take j)).has n = hold at hcH2
        unfold strV at hcV hcV2 hcv2 hcv3
        clear hcv
        go_upto_region 6 with (fail)
        go_region
        go_wp2
        go_roundw
        case rel => exact ⟨j + 1, by go_num, by omega, by go_grown, by simp; omega, hrow2.out, by rw [hcd.out]; exact hfin.out⟩
        case measure => simp [intOf]; omega
end Go.Proofs.Ytdlmamnnamlleaa
