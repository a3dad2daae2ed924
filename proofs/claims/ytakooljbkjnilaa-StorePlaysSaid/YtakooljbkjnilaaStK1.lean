/- Several texts one behind the other: St9 IntEq St13 St10 St11 St12 St14 CalmG St15 St16 St17 St20 St18 St19 St21. -/
import Derived.Test.YtakooljbkjnilaaSt8
import Derived.Test.YtakooljbkjnilaaTail2
import Derived.Test.YtakooljbkjnilaaOwn
import Derived.WalkSpells
import Derived.Handy
import Derived.Outline
import Derived.Lib.Hide
import Derived.RegionTactic
import Derived.Test.YtakooljbkjnilaaFrame
import Derived.Deep.QuietTactic
import Derived.BigQuiet
import Derived.Deep.DeepCutAuto
import Derived.Test.YtakooljbkjnilaaCalm
import Derived.BigFrame
namespace Go.Proofs.Ytakooljbkjnilaa
open Go.ChangeShapes Go.WideShapes Go.ChangeAt Go.RowKit
set_option maxHeartbeats 1000000
set_option maxRecDepth 100000
attribute [local go_sem] kp_refl kp_alloc kp_setCell kp_drew kp_drewN row_new row_old rowAt_new rowAt_old

def ofO (l : List Hd) (k : Int) : List Hd := l.filter fun x => x.o != k
/-- What is left behind j rounds. -/
def leftO (l : List Hd) (k : Int) (j : Nat) : List Hd := ofO (l.take j) k ++ l.drop j
theorem leftO_zero (l : List Hd) (k : Int) : leftO l k 0 = l := by simp [leftO, ofO]
theorem leftO_all (l : List Hd) (k : Int) : leftO l k l.length = ofO l k := by simp [leftO]
theorem take_snocH (l : List Hd) {j : Nat} (h : j < l.length) : l.take (j + 1) = l.take j ++ [l[j]] := by rw [List.take_add_one, List.getElem?_eq_getElem h]; rfl
theorem leftO_keep {l : List Hd} {k : Int} {j : Nat} (h : j < l.length) (ho : l[j].o ≠ k) : leftO l k (j + 1) = leftO l k j := by
  unfold leftO ofO
  rw [take_snocH l h, List.filter_append, List.append_assoc, List.drop_eq_getElem_cons h]
  simp [ho]
theorem leftO_drop {l : List Hd} {k : Int} {j : Nat} (h : j < l.length) (ho : l[j].o = k) (ha : (hdM l).Pairwise fun p q => p.1 < q.1) : leftO l k (j + 1) = dropO (leftO l k j) l[j].h := by
  have hp : ∀ (a b : Nat) (hab : a < b) (hb : b < l.length), l[a].h < l[b].h := by
    intro a b hab hb
    have := List.pairwise_iff_getElem.1 (show (l.map fun x => (x.h, x.val)).Pairwise _ from ha) a b (by simp; omega) (by simpa using hb) hab
    simpa using this
  unfold leftO ofO dropO
  rw [take_snocH l h, List.filter_append, List.filter_append, List.append_assoc, List.drop_eq_getElem_cons h]
  have e1 : ((l.take j).filter fun x => x.o != k).filter (fun x => x.h != l[j].h) = (l.take j).filter fun x => x.o != k := by
    rw [List.filter_eq_self]
    intro x hx
    obtain ⟨i, hi, rfl⟩ := List.getElem_of_mem (List.mem_filter.1 hx).1
    have hi2 : i < j := by simp at hi; omega
    have := hp i j hi2 h
    simp; omega
  have e2 : (l.drop (j + 1)).filter (fun x => x.h != l[j].h) = l.drop (j + 1) := by
    rw [List.filter_eq_self]
    intro x hx
    obtain ⟨i, hi, rfl⟩ := List.getElem_of_mem hx
    have hi2 : j + 1 + i < l.length := by simp at hi; omega
    have := hp j (j + 1 + i) (by omega) hi2
    simp; omega
  have e3 : (l[j] :: l.drop (j + 1)).filter (fun x => x.h != l[j].h) = l.drop (j + 1) := by rw [List.filter_cons_of_neg (by simp), e2]
  rw [e1, e3]
  simp [ho]
theorem leftO_sub {l : List Hd} {k : Int} {j : Nat} : ∀ x ∈ leftO l k j, x ∈ l := fun x hx => by
  unfold leftO ofO at hx
  rcases List.mem_append.1 hx with h | h
  · exact List.mem_of_mem_take (List.mem_filter.1 h).1
  · exact List.mem_of_mem_drop h
theorem hd_cells (l : List Hd) (k : Nat) : (l.flatMap Hd.cells)[k * 3]? = (l[k]?).map (fun x => .int .i64 x.h) ∧ (l.flatMap Hd.cells)[k * 3 + 1]? = (l[k]?).map (fun x => .int .i64 x.o) ∧ (l.flatMap Hd.cells)[k * 3 + 2]? = (l[k]?).map (fun x => .slice x.A x.l.length x.cap) := by
  induction l generalizing k with
  | nil => simp
  | cons x r ih =>
    cases k with
    | zero => simp [Hd.cells]
    | succ k =>
      have h1 : (k + 1) * 3 = k * 3 + 3 := by omega
      have h2 : (k + 1) * 3 + 1 = (k * 3 + 1) + 3 := by omega
      have h3 : (k + 1) * 3 + 2 = (k * 3 + 2) + 3 := by omega
      rw [h3, h2, h1]
      simp only [List.flatMap_cons, Hd.cells, List.cons_append, List.nil_append, List.getElem?_cons_succ]
      exact ih k
theorem hd_at {w : World} {B : Nat} {A : Option Addr} {l : List Hd} (h : Rd w B A (l.flatMap Hd.cells)) {k : Nat} (hk : k < l.length) :
    ∃ ad, A = some ad ∧ ad.block < B ∧ w.cell? (ad.add (k * 3)) = some (.int .i64 l[k].h) ∧ w.cell? ⟨(ad.add (k * 3)).block, (ad.add (k * 3)).off + 1, none⟩ = some (.int .i64 l[k].o) ∧ w.cell? ⟨(ad.add (k * 3)).block, (ad.add (k * 3)).off + 2, none⟩ = some (.slice l[k].A l[k].l.length l[k].cap) := by
  obtain ⟨h1, h2, h3⟩ := hd_cells l k
  rw [List.getElem?_eq_getElem hk] at h1 h2 h3
  obtain ⟨ad, rfl, hb, c1⟩ := h _ _ h1
  exact ⟨ad, rfl, hb, c1, by have h4 := h.all h2; rw [← addr_add] at h4; exact h4, by have h4 := h.all h3; rw [← addr_add] at h4; exact h4⟩
theorem store_DropOf (g bm : Nat) (most next k : Int) (l : List Hd) (w : World) (h : StAt w g bm most next l) (hll : l.length ≤ 100000) :
    Calls Try.prog 18 #[.pointer (some ⟨g, 0, none⟩), .int .i64 k] w fun e w' => e = .returned (.int .i64 ((l.length : Int) - (ofO l k).length)) ∧ StAt w' g bm most next (ofO l k) ∧ StepS g bm l (ofO l k) w w' := by
  have hlt := h.lt
  have hbl := h.mp.lt
  go_enter Try.func18, Try.ntmps18
  go_wp2_with fail
  refine (store_List g bm most next l w h hll).mono ?_
  rintro e w1 ⟨A, c, l1, rfl, hO, hob, hb1⟩
  have h1 := h.step hb1
  have hll1 : l1.length = l.length := by have := congrArg List.length hob; simpa using this
  have hasc := Lib.hid h.mp.asc
  have hwf := Lib.hid h.mp.wf
  have hrd := hO.rd
  have hA : ∀ a, A = some a → w.heap.size ≤ a.block ∧ a.block < w1.heap.size := fun a ha => ⟨(hO.own.lt a.block (by rw [ha]; rfl)).1, hO.lt a.block (by rw [ha]; rfl)⟩
  have hob := Lib.hid hob
  clear h hO
  have hcc : Hid (l1.length = l.length) := hll1
  rw [hll1]
  go_wp2
  go_loopw [5, 11] (fun nv x wr => ∃ j : Nat, x = .int .i64 j ∧ j ≤ l.length ∧ nv = .int .i64 ((j : Int) - (ofO (l.take j) k).length) ∧ StAt wr g bm most next (leftO l k j) ∧ But g bm w1 wr) (fun _ x _ => l.length - (Go.RowKit.intOf x).toNat)
  case atStart => exact ⟨0, rfl, Nat.zero_le _, rfl, by rw [leftO_zero]; exact h1, But.refl _ _ _⟩
  case round =>
    obtain ⟨j, rfl, hj, rfl, hS, hB⟩ := hrel
    have hzB := hB.size
    by_cases hjl : j = l.length
    · subst hjl
      rw [leftO_all] at hS
      rw [List.take_length]
      go_wp2
      go_ret
      exact ⟨rfl, hS, (But.of_below hb1).trans hB, fun x hx => .inl (List.mem_filter.1 hx).1⟩
    · have hjl : j < l.length := by omega
      have hj1 : j < l1.length := by omega
      obtain ⟨ad, rfl, hal, q0, q1, q2⟩ := hd_at hrd hj1
      have hadw := hA ad rfl
      have hpc : ∀ (i : Nat) (v : Value), w1.cell? ⟨(ad.add (j * 3)).block, (ad.add (j * 3)).off + i, none⟩ = some v → wr.cell? ⟨(ad.add (j * 3)).block, (ad.add (j * 3)).off + i, none⟩ = some v := fun i v hv => (World.cell?_of_block (by rw [addr_block]; exact hB.block _ hadw.2 (by omega) (by omega))).trans hv
      have p0 : wr.cell? (ad.add (j * 3)) = some (.int .i64 l1[j].h) := (World.cell?_of_block (by rw [addr_block]; exact hB.block _ hadw.2 (by omega) (by omega))).trans q0
      have p1 := hpc 1 _ q1
      have p2 := hpc 2 _ q2
      have hxj : l1[j].ob = l[j].ob := by
        have := congrArg (fun t => t[j]?) hob.out
        simp only [List.getElem?_map, List.getElem?_eq_getElem hjl, List.getElem?_eq_getElem hj1, Option.map_some] at this
        injection this
      have hxh : l1[j].h = l[j].h := congrArg (·.1) hxj
      have hxo : l1[j].o = l[j].o := congrArg (·.2.1) hxj
      have hkw := Lib.hid (show (Lit.int .i64 l[j].h).wf = true from hwf.out (l[j].h, l[j].val) (List.mem_map.2 ⟨l[j], List.getElem_mem hjl, rfl⟩))
      have htk := take_snocH l hjl
      clear q0 q1 q2 hpc
      generalize l1[j] = x at *
      obtain ⟨xh, xo, xA, xc, xl⟩ := x
      simp only at p0 p1 p2 hxh hxo
      subst hxh
      have hbA := below_alloc' wr (.cells #[.int .i64 l[j].h, .int .i64 xo, .slice xA xl.length xc] 45)
      have hSA := Lib.hid (hS.step hbA)
      have hBA := Lib.hid (hB.trans (But.of_below hbA))
      have b3 := B3.new wr (.int .i64 l[j].h) (.int .i64 xo) (.slice xA xl.length xc) 45
      have hcb := Lib.hid (show (ofO (l.take j) k).length ≤ j from by have := List.length_filter_le (fun x : Hd => x.o != k) (l.take j); rw [List.length_take] at this; unfold ofO; omega)
      by_cases ho : l[j].o = k
      · have hlo := Lib.hid (leftO_drop hjl ho hasc.out)
        have hcn : ((j + 1 : Nat) : Int) - (ofO (l.take (j + 1)) k).length = ((j : Int) - (ofO (l.take j) k).length) + 1 := by
          rw [htk]; unfold ofO; rw [List.filter_append, List.length_append]; simp [ho]; omega
        have hcn := Lib.hid hcn
        obtain rfl : xo = k := hxo.trans ho
        clear hxo ho htk hxj
        generalize (ofO (l.take j) xo).length = cn at *
        go_upto_region 6 with (fail)
        generalize wr.alloc (.cells #[.int .i64 l[j].h, .int .i64 xo, .slice xA xl.length xc] 45) = W at *
        have hzW : Hid (wr.heap.size < W.heap.size) := b3.lt
        have hBB := hBA
        have hD := Lib.hid (fun V (hV : Below W.heap.size W V) => hSA.out.step hV)
        have hE := Lib.hid (fun V (hV : Below W.heap.size W V) => b3.step hV)
        have hR := Lib.hid (dropO_sub (l := leftO l xo j) (k := l[j].h))
        clear b3 hbA hS hB hSA p0 p1 p2
        generalize ha0 : Act.mk _ _ = a0
        have e0 : a0.tmps[0]?.getD undef = .pointer (some ⟨g, 0, none⟩) := by rw [← ha0]; rfl
        have e7 : a0.tmps[7]?.getD undef = .pointer (some ⟨wr.heap.size, 0, none⟩) := by rw [← ha0]; rfl
        have hz0 : a0.tmps.size = 29 := by rw [← ha0]; rfl
        have hha0 := Lib.hid ha0
        clear ha0
        refine wp_region_tailL (fun jx_ => match jx_ with | 0 => SRel.is (.pointer (some ⟨g, 0, none⟩)) | 1 => SRel.is (.pointer (some ⟨g, 0, none⟩)) | 2 => SRel.is (.pointer (some ⟨g, 2, none⟩)) | 3 => SRel.is (.map (some bm)) | 4 => SRel.is (.pointer (some ⟨wr.heap.size, 0, none⟩)) | 5 => SRel.is (.int .i64 l[j].h) | 6 => SRel.any | _ => SRel.any) 6 (by kernel_rfl) (by kernel_rfl) (by kernel_rfl) (slotsOk_of hz0 (by kernel_rfl)) (by kernel_rfl) (of_decide_eq_true (by kernel_rfl)) ⟨?_, ?_, ?_, ?_, ?_, ?_, trivial⟩ ?_
        · refine calmL_step rfl fun a ω κ hb hu hc hK => ?_
          have h0 : a.tmps[0]?.getD undef = .pointer (some ⟨g, 0, none⟩) := (hu 0 rfl).trans e0
          have hk := Lib.hid (fun w1 (h : Below ω.heap.size ω w1) => hK (.pointer (some ⟨g, 0, none⟩)) w1 rfl h)
          clear hK hu hc
          go_simp
          exact hk.out _ (Below.refl _ _)
        · refine calmL_step rfl fun a ω κ hb hu hc hK => ?_
          have h19 : a.tmps[19]?.getD undef = .pointer (some ⟨g, 0, none⟩) := hc 0 19 rfl rfl
          have hk := Lib.hid (fun w1 (h : Below ω.heap.size ω w1) => hK (.pointer (some ⟨g, 0, none⟩)) w1 rfl h)
          clear hK hu hc
          go_simp
          exact hk.out _ (Below.refl _ _)
        · refine calmL_step rfl fun a ω κ hb hu hc hK => ?_
          have h20 : a.tmps[20]?.getD undef = .pointer (some ⟨g, 0, none⟩) := hc 1 20 rfl rfl
          have hk := Lib.hid (fun w1 (h : Below ω.heap.size ω w1) => hK (.pointer (some ⟨g, 2, none⟩)) w1 rfl h)
          clear hK hu hc
          go_simp
          exact hk.out _ (Below.refl _ _)
        · refine calmL_step rfl fun a ω κ hb hu hc hK => ?_
          have h21 : a.tmps[21]?.getD undef = .pointer (some ⟨g, 2, none⟩) := hc 2 21 rfl rfl
          have hk := Lib.hid (fun w1 (h : Below ω.heap.size ω w1) => hK (.map (some bm)) w1 rfl h)
          clear hK hu hc
          obtain ⟨e0, e1, e2, ef⟩ := (hD.out ω hb).c
          go_simp
          exact hk.out _ (Below.refl _ _)
        · refine calmL_step rfl fun a ω κ hb hu hc hK => ?_
          have h7 : a.tmps[7]?.getD undef = .pointer (some ⟨wr.heap.size, 0, none⟩) := (hu 7 rfl).trans e7
          have hk := Lib.hid (fun w1 (h : Below ω.heap.size ω w1) => hK (.pointer (some ⟨wr.heap.size, 0, none⟩)) w1 rfl h)
          clear hK hu hc
          go_simp
          exact hk.out _ (Below.refl _ _)
        · refine calmL_step rfl fun a ω κ hb hu hc hK => ?_
          have h23 : a.tmps[23]?.getD undef = .pointer (some ⟨wr.heap.size, 0, none⟩) := hc 4 23 rfl rfl
          have hk := Lib.hid (fun w1 (h : Below ω.heap.size ω w1) => hK (.int .i64 l[j].h) w1 rfl h)
          clear hK hu hc
          obtain ⟨e0, e1, e2, ef⟩ := (hE.out ω hb).c
          go_simp
          exact hk.out _ (Below.refl _ _)
        · intro aa ω hb hu hsz hdf hc
          have h19 : aa.tmps[19]?.getD undef = .pointer (some ⟨g, 0, none⟩) := hc 0 19 (by decide) rfl
          have h20 : aa.tmps[20]?.getD undef = .pointer (some ⟨g, 0, none⟩) := hc 1 20 (by decide) rfl
          have h21 : aa.tmps[21]?.getD undef = .pointer (some ⟨g, 2, none⟩) := hc 2 21 (by decide) rfl
          have h22 : aa.tmps[22]?.getD undef = .map (some bm) := hc 3 22 (by decide) rfl
          have h23 : aa.tmps[23]?.getD undef = .pointer (some ⟨wr.heap.size, 0, none⟩) := hc 4 23 (by decide) rfl
          have h24 : aa.tmps[24]?.getD undef = .int .i64 l[j].h := hc 5 24 (by decide) rfl
          have ha0 := hha0.out
          subst ha0
          have he := act_patchL (n := 29) 6 [false, false, false, false, false, false, false, false, false, false, false, false, false, false, false, false, false, false, false, true, true, true, true, true, true, false, false, false, false] rfl (by kernel_rfl) hu hsz hdf
          simp only [patch, cond_true, cond_false, Nat.reduceAdd] at he
          clear hu hsz hdf hc hha0 e0 e7 hz0
          rw [he]
          clear he
          generalize aa.tmps[19]?.getD undef = x19 at *
          generalize aa.tmps[20]?.getD undef = x20 at *
          generalize aa.tmps[21]?.getD undef = x21 at *
          generalize aa.tmps[22]?.getD undef = x22 at *
          generalize aa.tmps[23]?.getD undef = x23 at *
          generalize aa.tmps[24]?.getD undef = x24 at *
          subst h19 h20 h21 h22 h23 h24
          have hdk := hD.out ω hb
          have hBx := Lib.hid (hBB.out.trans (But.of_below hb))
          have hkey := Maps.keyOf_int_mk (P := Try.prog) Try.underlying3 hkw.out
          have hown := Lib.hid hdk.mp.own
          have hwr : wrap64 ((j : Int) - cn + 1) = (j : Int) - cn + 1 := by have := hcb.out; unfold wrap64; omega
          have hfn := Lib.hid (fun (V : World) (h1 : StAt V g bm most next (leftO l xo (j + 1))) (h2 : But g bm w1 V) => (show (∃ i : Nat, Value.int .i64 ((j : Int) + 1) = Value.int .i64 (i : Int) ∧ i ≤ l.length ∧ Value.int .i64 (wrap64 ((j : Int) - cn + 1)) = Value.int .i64 ((i : Int) - (ofO (l.take i) xo).length) ∧ StAt V g bm most next (leftO l xo i) ∧ But g bm w1 V) ∧ l.length - (RowKit.intOf (Value.int IntKind.i64 ((j : Int) + 1))).toNat < l.length - (RowKit.intOf (Value.int IntKind.i64 (j : Int))).toNat from ⟨⟨j + 1, rfl, by omega, by rw [hcn.out, hwr], h1, h2⟩, by simp [Go.RowKit.intOf]; omega⟩))
          clear hwr
          dsimp only [List.drop]
          go_wp2_with (at_delete; refine wpList_delete_own _ rfl _ _ 40 3 rfl 45 (Maps.int_keyed Try.underlying3) Try.underlying40 RV bm _ _ rfl hown.out _ _ rfl hkey ?_; intro w5 hown5 hturn5; have h5 := hdk.turn hturn5 (by rw [← del_hd]; exact hdk.mp.del hown5) (fun x hx => hdk.at_ x (hR.out x hx)); have hB5 := But.of_grown (g := g) hturn5.grown (.inr (.inl rfl)))
          exact hfn.out _ (by rw [hlo.out]; exact h5) (hBx.out.trans hB5)

      · have hne : (xo == k) = false := by rw [hxo]; simpa using ho
        have hlo := Lib.hid (leftO_keep hjl ho)
        have hcn : ((j + 1 : Nat) : Int) - (ofO (l.take (j + 1)) k).length = ((j : Int) - (ofO (l.take j) k).length) := by
          rw [htk]; unfold ofO; rw [List.filter_append, List.length_append]; simp [ho]; omega
        have hcn := Lib.hid hcn
        clear hxo ho htk hxj
        go_wp2
        go_roundw
        case rel => exact ⟨j + 1, by go_num, by omega, by rw [hcn.out], by rw [hlo.out]; exact hSA.out, hBA.out⟩
        case measure => simp [Go.RowKit.intOf]; omega
end Go.Proofs.Ytakooljbkjnilaa
namespace Go.Proofs.Ytakooljbkjnilaa
open Go.ChangeShapes Go.WideShapes Go.ChangeAt Go.RowKit
set_option maxHeartbeats 1000000
set_option maxRecDepth 100000
attribute [local go_sem] kp_refl kp_alloc kp_setCell kp_drew kp_drewN row_new row_old rowAt_new rowAt_old

def izV (l : List Int) : List Value := l.map fun k : Int => Value.int .i64 k
theorem izV_len (l : List Int) : (izV l).length = l.length := by simp [izV]
theorem izV_at {l : List Int} {j : Nat} (h : j < l.length) : (izV l)[j]'(by rw [izV_len]; exact h) = .int .i64 l[j] := by simp [izV]
theorem intsEq_no {xs ys : List Int} {k : Nat} (hk : k < xs.length) (hk2 : k < ys.length) (h : xs[k] ≠ ys[k]) : decide (xs = ys) = false := by
  rw [decide_eq_false_iff_not]
  intro e
  subst e
  exact h rfl
theorem ints_Equal (A1 A2 : Option Addr) (xs ys : List Int) (c1 c2 : Nat) (w : World) (h1 : Rd w w.heap.size A1 (izV xs)) (h2 : Rd w w.heap.size A2 (izV ys)) (hn : xs.length ≤ 9223372036854775807) :
    Calls Try.prog 22 #[.slice A1 xs.length c1, .slice A2 ys.length c2] w fun e w' => e = .returned (.bool (decide (xs = ys))) ∧ Below w.heap.size w w' := by
  by_cases hlen : xs.length = ys.length
  · have hlb : ((xs.length : Int) != (ys.length : Int)) = false := by simp [hlen]
    have HL := Lib.hid hlen
    clear hlen
    go_enter Try.func22, Try.ntmps22
    go_wp2
    go_loopw [13] (fun i wr => ∃ k : Nat, k ≤ xs.length ∧ i = .int .i64 k ∧ Hid (xs.take k = ys.take k) ∧ Below w.heap.size w wr) (fun i _ => xs.length - (intOf i).toNat)
    case atStart => exact ⟨0, by omega, rfl, rfl, Below.refl _ _⟩
    case round =>
      obtain ⟨k, hk, rfl, heq, hb⟩ := hrel
      by_cases hlt : k < xs.length
      · have hlt2 : k < ys.length := by have := HL.out; omega
        have h1' := h1.below hb
        have h2' := h2.below hb
        obtain ⟨a1, rfl, -, q1⟩ := h1'.at_ (k := k) (by rw [izV_len]; exact hlt)
        obtain ⟨a2, rfl, -, q2⟩ := h2'.at_ (k := k) (by rw [izV_len]; exact hlt2)
        rw [izV_at hlt] at q1
        rw [izV_at hlt2] at q2
        have hbx : (k : Int) < (ys.length : Int) := by omega
        have hbx0 : (0 : Int) ≤ (k : Int) := by omega
        have hbx1 : (k : Int) < (xs.length : Int) := by omega
        have hno := Lib.hid (fun (h : xs[k] ≠ ys[k]) => intsEq_no hlt hlt2 h)
        have hyes : Hid (xs[k] = ys[k] → xs.take (k + 1) = ys.take (k + 1)) := fun h => by
          rw [List.take_succ_eq_append_getElem hlt, List.take_succ_eq_append_getElem hlt2, heq.out, h]
        generalize xs[k] = x at *
        generalize ys[k] = y at *
        by_cases hxy : x = y
        · have hy2 := Lib.hid (hyes.out hxy)
          subst hxy
          go_wp2
          go_region
          go_wp2
          go_roundw
          case rel => exact ⟨k + 1, by omega, by go_num, hy2.out, hb.drew⟩
          case measure => simp [intOf]; omega
        · have hn2 := Lib.hid (hno.out hxy)
          have ht2 : (x != y) = true := by rw [bne_iff_ne]; exact hxy
          have ht3 : (x == y) = false := by rw [beq_eq_false_iff_ne]; exact hxy
          have ht4 : decide (x = y) = false := decide_eq_false hxy
          go_wp2
          go_region
          go_wp2
          go_ret
          exact ⟨ret_bool (by rw [hn2.out]), hb.drew⟩
      · have h3 : Hid (decide (xs = ys) = true) := by
          show _ = _
          have := heq.out
          rw [List.take_of_length_le (by omega), List.take_of_length_le (by have := HL.out; omega)] at this
          simpa using this
        go_wp2
        go_ret
        exact ⟨ret_bool (by rw [h3.out]), hb⟩
  · have hlb : ((xs.length : Int) != (ys.length : Int)) = true := by rw [bne_iff_ne]; omega
    have hno : Hid (decide (xs = ys) = false) := by
      show _ = _
      rw [decide_eq_false_iff_not]
      exact fun e => hlen (by rw [e])
    clear hlen
    go_enter Try.func22, Try.ntmps22
    go_wp2
    go_ret
    exact ⟨ret_bool (by rw [hno.out]), Below.refl _ _⟩
end Go.Proofs.Ytakooljbkjnilaa
namespace Go.Proofs.Ytakooljbkjnilaa
open Go.ChangeShapes Go.WideShapes Go.ChangeAt Go.RowKit
set_option maxHeartbeats 1000000
set_option maxRecDepth 100000
attribute [local go_sem] Oper.semAt_some kp_refl kp_alloc kp_setCell kp_drew kp_drewN row_new row_old rowAt_new rowAt_old

theorem SIz : SlT Try.prog 56 3 1 8 := SlT.mk' Try.underlying56 (by kernel_rfl) (by omega)
def hiddenK (s : List KV) : Bool := lookOneK s 8 || ((lookK s 9).isSome && !lookOneK s 9)
theorem hidden_kv (l : List At) : hidden l = hiddenK (l.map At.kv) := by
  unfold hidden hiddenK
  rw [lookOne_kv, lookOne_kv, look_kv]
/-- Is it found? -/
def condB (ask : List KV) (x : Int × Int × List KV) : Bool := fitsL x.2.2 ask && !((lookK ask 4).isSome && hiddenK x.2.2)
def foundB (ask : List KV) (l : List (Int × Int × List KV)) : List Int := (l.filter (condB ask)).map (·.1)
theorem foundB_snoc (ask : List KV) (l : List (Int × Int × List KV)) (x : Int × Int × List KV) : foundB ask (l ++ [x]) = foundB ask l ++ (if condB ask x then [x.1] else []) := by
  unfold foundB
  rw [List.filter_append, List.map_append]
  congr 1
  cases h : condB ask x
  · simp [h]
  · simp [h]
def FindSR (ask : List KV) (l : List Hd) (w : World) (e : Ending) (w' : World) : Prop := ∃ A c, e = .returned (.slice A (foundB ask (l.map Hd.ob)).length c) ∧ Rd w' w'.heap.size A (izV (foundB ask (l.map Hd.ob))) ∧ Below w.heap.size w w'
/-- Between the rounds of Find. -/
structure FnI (n7 : Nat) (w : World) (M : Nat) (sv : Value) (o : List Int) (N : Nat) (A : World) : Prop where
  cell : A.cell? ⟨n7, 0, none⟩ = some sv
  fz : A.frozen? ⟨n7, 0, none⟩ = false
  own : A.ownsRow M 3 1 sv o.length (izV o)
  lt : ∀ g, sv.ownBlock = some g → g < N
  bel : Below n7 w A
  size : N ≤ A.heap.size
theorem FnI.more {n7 M N N' : Nat} {w A : World} {sv : Value} {o : List Int} (h : FnI n7 w M sv o N A) (hN : N ≤ N') (hs : N' ≤ A.heap.size) : FnI n7 w M sv o N' A := ⟨h.cell, h.fz, h.own, fun g hg => Nat.lt_of_lt_of_le (h.lt g hg) hN, h.bel, hs⟩
theorem own_keptS {w w' : World} {B size n : Nat} {e : TypeId} {v : Value} {xs : List Value} (h : w.ownsRow B e size v n xs) (hb : ∀ j, v.ownBlock = some j → w'.heap[j]? = w.heap[j]?) : w'.ownsRow B e size v n xs := by
  refine ⟨h.1, ?_⟩
  rcases h.2 with h1 | ⟨g, cap, cur, h1, h2, h3, h4⟩
  · exact .inl h1
  · exact .inr ⟨g, cap, cur, h1, h2, (hb g (by rw [h1]; rfl)).trans h3, h4⟩
theorem FnI.grown {n7 M N b : Nat} {w A B : World} {o : List Int} {sv : Value} (h : FnI n7 w M sv o N A) (hw : n7 ≤ w.heap.size) (hg : A.grownBy B (some b)) (h1 : n7 < b) (h2 : b < M) : FnI n7 w M sv o N B :=
  ⟨cell_grown h.cell hg (by show n7 ≠ b; omega), (World.frozen?_of_block (hg.block n7 (cell_ltS h.cell) (fun e => by injection e; omega))).trans h.fz,
    own_keptS h.own fun j hj => hg.block j (Nat.lt_of_lt_of_le (h.lt j hj) h.size) (fun e => by injection e; have := (h.own.lt j hj).1; omega), h.lt, below_grown h.bel hg (by omega) hw, Nat.le_trans h.size hg.size⟩
theorem fn_step {n7 M N te : Nat} {w A w6 : World} {o : List Int} {sv v2 : Value} {x : Int} (h : FnI n7 w M sv o N A) (hg : (A.alloc (.cells #[.int .i64 x] te)).grownBy w6 sv.ownBlock) (hO : w6.ownsRow M 3 1 v2 (o.length + 1) (izV o ++ [.int .i64 x])) (h1 : n7 < M) (hw : n7 ≤ w.heap.size) :
    FnI n7 w M v2 (o ++ [x]) (w6.setCell ⟨n7, 0, none⟩ v2).heap.size (w6.setCell ⟨n7, 0, none⟩ v2) := by
  have hb := below_alloc' A (.cells #[.int .i64 x] te)
  have hne : ∀ j, sv.ownBlock = some j → M ≤ j := fun j hj => (h.own.lt j hj).1
  have c6 : w6.cell? ⟨n7, 0, none⟩ = some sv := (World.cell?_of_block (hg.block n7 (by have := cell_ltS h.cell; have : n7 < A.heap.size := this; simp; omega) (fun e => by have := hne _ e.symm; omega))).trans ((hb.cell (p := ⟨n7, 0, none⟩) (cell_ltS h.cell)).trans h.cell)
  have f6 : w6.frozen? ⟨n7, 0, none⟩ = false := (World.frozen?_of_block (hg.block n7 (by have := cell_ltS h.cell; have : n7 < A.heap.size := this; simp; omega) (fun e => by have := hne _ e.symm; omega))).trans ((World.frozen?_of_block (hb.block n7 (cell_ltS h.cell))).trans h.fz)
  refine ⟨World.cell?_setCell_same' _ _ _ (by rw [c6]; rfl), by rw [World.frozen?_setCell]; exact f6, ?_, ?_, ?_, Nat.le_refl _⟩
  · have : izV (o ++ [x]) = izV o ++ [.int .i64 x] := by simp [izV]
    rw [this, List.length_append]
    exact own_keptS hO fun j hj => Below.heap_setCell _ _ _ _ (by have := (hO.lt j hj).1; show j ≠ n7; omega)
  · intro j hj
    have := (hO.lt j hj).2
    simpa using this
  · refine Below.setCell (p := ⟨n7, 0, none⟩) ?_ (Nat.le_refl n7) _
    exact (h.bel.trans (hb.mono (by have := h.bel.size; omega))).grown hg (by have := h.bel.size; simp; omega) (fun k hk => by have := hne k hk; omega)
theorem fn_same {n7 M te : Nat} {W A w6 : World} {sv v2 : Value} {x : Int} (hg : (A.alloc (.cells #[.int .i64 x] te)).grownBy w6 sv.ownBlock) (hA : Below W.heap.size W A) {k : Nat} (hk : k < M) (hne : k ≠ n7) (hM : M ≤ W.heap.size) (ho : ∀ j, sv.ownBlock = some j → M ≤ j) : (w6.setCell ⟨n7, 0, none⟩ v2).heap[k]? = W.heap[k]? := by
  have hb := below_alloc' A (.cells #[.int .i64 x] te)
  have := hA.size
  rw [Below.heap_setCell _ _ _ _ hne, hg.block k (by simp; omega) (fun e => by have := ho _ e.symm; omega), hb.block k (by omega), hA.block k (by omega)]
theorem undef_nb {b : Bool} (h : some undef = some (Value.bool b)) : False := by simp [undef] at h
set_option maxHeartbeats 4000000 in
theorem store_Find (g bm : Nat) (most next : Int) (l : List Hd) (A : Option Addr) (al : List At) (c : Nat) (w : World) (h : StAt w g bm most next l) (hll : l.length ≤ 100000) (hA : Ats w w.heap.size A al) (hal : al.length ≤ 4398046511104) :
    Calls Try.prog 23 #[.pointer (some ⟨g, 0, none⟩), .slice A al.length c] w (FindSR (al.map At.kv) l w) := by
  refine (callsIn_wide (n := 10)).1 ?_
  have hbx := below_alloc' w (.cells #[.slice A al.length c] 33)
  have hA1 := hA.step hbx
  have h1 := h.step hbx
  have hcG : CallsIn Fence.wide 9 Try.prog 29 #[.slice A al.length c, .int .i64 4] (w.alloc (.cells #[.slice A al.length c] 33)) fun e w' => ∃ A' n' c', e = .returned (.tuple #[.slice A' n' c', .bool (look al 4).isSome]) ∧ Below (w.alloc (.cells #[.slice A al.length c] 33)).heap.size (w.alloc (.cells #[.slice A al.length c] 33)) w' := callsIn_wide.2 (get_any A al c 4 _ hA1 (by omega))
  have hfG : Fence.wide.fn 29 := trivial
  have hvk : Hid ((look al 4).isSome = (lookK (al.map At.kv) 4).isSome) := by show _ = _; rw [look_kv]
  generalize (look al 4).isSome = vb at *
  refine callsIn_of_wp_marks Try.func23 rfl trivial ?_ rfl
  simp only [Try.ntmps23, List.size_toArray, List.length_cons, List.length_nil, Nat.reduceAdd, Nat.reduceSub, Array.replicate_succ, Array.replicate_zero, List.push_toArray, List.append_toArray, List.nil_append, List.cons_append]
  gi_wp2_with (gi_at_call 29; refine hcG.mono ?_; rintro e w1 ⟨A9, n9, c9, rfl, hb1⟩)
  have hb6 := below_alloc' w1 (.cells #[.bool vb] 4)
  have hbw : Below w.heap.size w w1 := hbx.trans (hb1.mono hbx.size)
  have hbW6 : Below w.heap.size w (w1.alloc (.cells #[.bool vb] 4)) := hbw.trans (hb6.mono hbw.size)
  have hz6 : (w1.alloc (.cells #[.bool vb] 4)).heap.size = w1.heap.size + 1 := by simp
  have hzw : w.heap.size + 1 ≤ w1.heap.size := by have := hb1.size; simp at this; omega
  have q3 : (w1.alloc (.cells #[.bool vb] 4)).cell? ⟨w.heap.size, 0, none⟩ = some (.slice A al.length c) := by
    rw [World.cell?_of_block (hb6.block w.heap.size (by omega)), World.cell?_of_block (hb1.block w.heap.size (by simp)), World.cell?_alloc_at _ _ _ _ rfl]; rfl
  have q6 : (w1.alloc (.cells #[.bool vb] 4)).cell? ⟨w1.heap.size, 0, none⟩ = some (.bool vb) := by rw [World.cell?_alloc_at _ _ _ _ rfl]; rfl
  have hall := store_all g bm most next l (w1.alloc (.cells #[.bool vb] 4)) (w1.heap.size + 1) (h.step hbW6) hll (by rw [hz6]; omega)
  generalize w1.alloc (.cells #[.bool vb] 4) = W6 at *
  have hz7 : (W6.alloc (.cells #[.slice none 0 0] 56)).heap.size = w1.heap.size + 2 := by simp; omega
  refine wpIn_rangeFunc_seq rfl (by omega) (gf := 12) (fs := #[.pointer (some ⟨g, 0, none⟩)]) (lb := #[]) rfl trivial (enters_of Try.func12 (by kernel_rfl) rfl) hall ((Below.refl _ W6).alloc (Nat.le_refl _) _) rfl (by rw [hz7]; omega)
    (fun M pre A => ∃ sv, FnI (w1.heap.size + 1) W6 M sv (foundB (al.map At.kv) (pre.map Hd.ob)) A.heap.size A)
    (fun M pre x a' V => ∃ sv b, FnI (w1.heap.size + 1) W6 M sv (foundB (al.map At.kv) (pre.map Hd.ob)) b V ∧ M ≤ b ∧ b < V.heap.size ∧ V.cell? ⟨b, 0, none⟩ = some (.int .i64 x.h) ∧ V.cell? ⟨b, 1, none⟩ = some (.int .i64 x.o) ∧ V.cell? ⟨b, 2, none⟩ = some (.slice x.A x.l.length x.cap) ∧
      a' = { tmps := #[.pointer (some ⟨g, 0, none⟩), .slice A al.length c, undef, .pointer (some ⟨w.heap.size, 0, none⟩), .slice none 0 0, .slice A9 n9 c9, .pointer (some ⟨w1.heap.size, 0, none⟩), .pointer (some ⟨w1.heap.size + 1, 0, none⟩), .pointer (some ⟨b, 0, none⟩), .tuple #[.slice A9 n9 c9, .bool vb], .slice A al.length c, .tuple #[.slice A9 n9 c9, .bool vb], .slice A9 n9 c9, .bool vb, .pointer (some ⟨g, 0, none⟩), .func (.func 12) #[.pointer (some ⟨g, 0, none⟩)] #[], x.val, undef, undef, undef, undef, undef, undef, undef, undef, undef, undef, undef, undef, undef, undef, undef, undef, undef, undef, undef], defers := [] }) ?_ ?_ ?_ ?_ ?_ ?_
  · rintro M pre A B hM ⟨sv, hL⟩ hg
    rw [hz7] at hM hg
    have hL2 := hL.grown (by omega) hg (by omega) (by omega)
    exact ⟨sv, hL2.more hg.size (Nat.le_refl _)⟩
  · rintro M pre x a' A B hM ⟨sv, b, hL, h1, h2, h3, h4, h5, h7⟩ hg
    rw [hz7] at hM hg
    exact ⟨sv, b, hL.grown (by omega) hg (by omega) (by omega), h1, Nat.lt_of_lt_of_le h2 hg.size, cell_grown h3 hg (by show b ≠ _; omega), cell_grown h4 hg (by show b ≠ _; omega), cell_grown h5 hg (by show b ≠ _; omega), h7⟩
  · intro V hV hs
    have e1 : w1.heap.size + 1 = W6.heap.size := hz6.symm
    have hVc : V.cell? ⟨w1.heap.size + 1, 0, none⟩ = some (.slice none 0 0) := by
      rw [World.cell?_of_block (hV.block (w1.heap.size + 1) (by omega)), World.cell?_alloc_at _ _ _ _ e1]; rfl
    have hVf : V.frozen? ⟨w1.heap.size + 1, 0, none⟩ = false := by
      rw [World.frozen?_of_block (hV.block (w1.heap.size + 1) (by omega)), World.frozen?_alloc_at _ _ _ _ e1]
    refine ⟨.slice none 0 0, hVc, hVf, World.ownsRow_nil _ _ _ _, fun g hg => (by cases hg), ?_, Nat.le_refl _⟩
    rw [e1]
    exact ((Below.refl _ W6).alloc (Nat.le_refl _) _).trans (hV.mono (by simp))
  · rintro M pre x W K hM hMW ⟨sv, hL⟩ hp hK
    obtain ⟨xh, xo, xA, xc, xl⟩ := x
    rw [hz7] at hM
    have hb := below_alloc' W (.cells #[.int .i64 xh, .int .i64 xo, .slice xA xl.length xc] 45)
    have hk := Lib.hid (hK _ _ ⟨sv, W.heap.size, ⟨(hb.cell (p := ⟨w1.heap.size + 1, 0, none⟩) (cell_ltS hL.cell)).trans hL.cell, (World.frozen?_of_block (hb.block (w1.heap.size + 1) (cell_ltS hL.cell))).trans hL.fz, own_keptS hL.own (fun j hj => hb.block j (hL.lt j hj)), hL.lt, hL.bel.trans (hb.mono (by have := hL.bel.size; omega)), hb.size⟩, hMW, by simp, by rw [World.cell?_alloc_at _ _ _ _ rfl]; rfl, by rw [World.cell?_alloc_at _ _ _ _ rfl]; rfl, by rw [World.cell?_alloc_at _ _ _ _ rfl]; rfl, rfl⟩ (KeptM.of_below hMW hb))
    clear hK hL hb
    simp only [Hd.val] at *
    gi_wp2
    exact hk.out
  · rintro M pre x a' W hM hMW ⟨sv, b, hL, h1, h2, h3, h4, h5, rfl⟩ hp
    obtain ⟨post, hp⟩ := hp
    rw [hz7] at hM
    dsimp only
    have hxl : x ∈ l := by rw [hp]; simp
    have hbW : Below w.heap.size w W := hbW6.trans (hL.bel.mono (by omega))
    have hSW := h.step hbW
    have hx := hSW.at_ x hxl
    have hAW := hA.step hbW
    have r3 : W.cell? ⟨w.heap.size, 0, none⟩ = some (.slice A al.length c) := (hL.bel.cell (p := ⟨w.heap.size, 0, none⟩) (by show w.heap.size < _; omega)).trans q3
    have r6 : W.cell? ⟨w1.heap.size, 0, none⟩ = some (.bool vb) := (hL.bel.cell (p := ⟨w1.heap.size, 0, none⟩) (by show w1.heap.size < _; omega)).trans q6
    have hpl : (foundB (al.map At.kv) (pre.map Hd.ob)).length ≤ 100000 := by
      have e2 := congrArg List.length hp
      have e3 : (foundB (al.map At.kv) (pre.map Hd.ob)).length ≤ (pre.map Hd.ob).length := by unfold foundB; rw [List.length_map]; exact List.length_filter_le _ _
      simp at e2 e3
      omega
    have hsn : foundB (al.map At.kv) ((pre ++ [x]).map Hd.ob) = foundB (al.map At.kv) (pre.map Hd.ob) ++ (if condB (al.map At.kv) x.ob then [x.h] else []) := by rw [List.map_append]; exact foundB_snoc _ _ _
    have hcb : condB (al.map At.kv) x.ob = (fitsL (x.l.map At.kv) (al.map At.kv) && !(vb && hidden x.l)) := by rw [hvk.out, hidden_kv]; rfl
    have hsn := Lib.hid hsn
    have hcb := Lib.hid hcb
    obtain ⟨xh, xo, xA, xc, xl⟩ := x
    simp only [Hd.val] at *
    have hP : ∀ V, Below W.heap.size W V → V.cell? ⟨b, 0, none⟩ = some (.int .i64 xh) ∧ V.cell? ⟨b, 2, none⟩ = some (.slice xA xl.length xc) ∧ V.cell? ⟨w1.heap.size, 0, none⟩ = some (.bool vb) ∧ V.cell? ⟨w1.heap.size + 1, 0, none⟩ = some sv ∧ V.frozen? ⟨w1.heap.size + 1, 0, none⟩ = false ∧ FnI (w1.heap.size + 1) W6 M sv (foundB (al.map At.kv) (pre.map Hd.ob)) b V ∧ W.heap.size ≤ V.heap.size ∧ Below W.heap.size W V := fun V hV =>
      have hc := (hV.cell (p := ⟨w1.heap.size + 1, 0, none⟩) (cell_ltS hL.cell)).trans hL.cell
      have hf := (World.frozen?_of_block (hV.block (w1.heap.size + 1) (cell_ltS hL.cell))).trans hL.fz
      ⟨(hV.cell (p := ⟨b, 0, none⟩) h2).trans h3, (hV.cell (p := ⟨b, 2, none⟩) h2).trans h5, (hV.cell (p := ⟨w1.heap.size, 0, none⟩) (cell_ltS r6)).trans r6, hc, hf,
        ⟨hc, hf, own_keptS hL.own (fun j hj => hV.block j (by have := hL.lt j hj; omega)), hL.lt, hL.bel.trans (hV.mono (by have := hL.bel.size; omega)), by have := hV.size; omega⟩, hV.size, hV⟩
    have hP := Lib.hid hP
    have hcM : CallsIn (Fence.wide.inRound (w1.heap.size + 2 + 1)) 7 Try.prog 30 #[.slice xA xl.length xc, .slice A al.length c] W fun e w' => e = .returned (.bool (fitsL (xl.map At.kv) (al.map At.kv))) ∧ Below W.heap.size W w' := callsIn_wide.2 (attr_Match xA A xl al xc c W hx.ats.ats hAW (by have := hx.lim; simp at this; omega) (by omega))
    have hcH : ∀ V, Below W.heap.size W V → CallsIn (Fence.wide.inRound (w1.heap.size + 2 + 1)) 7 Try.prog 31 #[.slice xA xl.length xc] V fun e w' => e = .returned (.bool (hidden xl)) ∧ Below W.heap.size W w' := fun V hV => callsIn_wide.2 ((rule_Hidden xA xl xc V (hx.ats.ats.step hV) (by have := hx.lim; simp at this; omega)).mono fun e w' ⟨h1, h2⟩ => ⟨h1, hV.trans (h2.mono hV.size)⟩)
    have hfM : Fence.wide.fn 30 := trivial
    have hfH : Fence.wide.fn 31 := trivial
    generalize fitsL (xl.map At.kv) (al.map At.kv) = fm at *
    generalize hidden xl = hd at *
    cases fm
    · gi_wp2_with (gi_at_call 30; refine hcM.mono ?_; rintro e w4 ⟨rfl, hb4⟩; obtain ⟨a0, a2, a6, a7, af, aI, aZ, aB⟩ := hP.out _ hb4)
      all_goals (first | (exfalso; rename_i hu1 hu2; exact undef_nb hu1) | skip)
      exact ⟨KeptM.of_below hMW aB, sv, by rw [hsn.out, hcb.out]; simpa using aI.more (by omega) (Nat.le_refl _)⟩
    · cases vb
      · gi_wp2_with (first | (gi_at_call 30; refine hcM.mono ?_; rintro e w4 ⟨rfl, hb4⟩; obtain ⟨a0, a2, a6, a7, af, aI, aZ, aB⟩ := hP.out _ hb4) | (gi_at_builtin; refine wpListIn_app rfl (.tmp 30) (.tmp 33) 56 rfl SIz rfl (own_keptS aI.own (fun j hj => (below_alloc' w4 _).block j (by have := aI.lt j hj; omega))) rfl (m := 1) (news := [.int .i64 xh]) rfl (Rd.of_blk (g := w4.heap.size) (blk_new _ _ rfl) (Nat.lt_succ_self _)) (by intro u hu; simp at hu; subst hu; rfl) (by unfold maxLen; omega) (by omega) (by simp; omega) ?_; intro v2 w6 hO6 hg6 hat6; clear hat6; obtain ⟨A8, c8, rfl⟩ := own_formS hO6; have g1 := cell_grownO (A := w4.alloc (.cells #[.int .i64 xh] 3)) (((below_alloc' w4 _).cell (p := ⟨w1.heap.size + 1, 0, none⟩) (cell_ltS a7)).trans a7) hg6 (fun e => by have := (aI.own.lt _ e.symm).1; simp at this; omega); have g2 := frozen_grownO (A := w4.alloc (.cells #[.int .i64 xh] 3)) (((below_alloc' w4 _).cell (p := ⟨w1.heap.size + 1, 0, none⟩) (cell_ltS a7)).trans a7) ((World.frozen?_of_block ((below_alloc' w4 _).block (w1.heap.size + 1) (cell_ltS a7))).trans af) hg6 (fun e => by have := (aI.own.lt _ e.symm).1; simp at this; omega); have hfl := Lib.hid (fn_step aI hg6 hO6 (by omega) (by omega)) ))
        all_goals (first | (exfalso; rename_i hu1 hu2; exact undef_nb hu1) | skip)
        have hf := hfl.out
        refine ⟨⟨by have := hg6.size; simp at this ⊢; omega, fun k hk hne => ?_⟩, _, by rw [hsn.out, hcb.out]; simpa using hf⟩
        exact (fn_same hg6 aB hk hne hMW (fun j hj => (aI.own.lt j hj).1))
      · cases hd
        · gi_wp2_with (first | (gi_at_call 30; refine hcM.mono ?_; rintro e w4 ⟨rfl, hb4⟩; obtain ⟨a0, a2, a6, a7, af, aI, aZ, aB⟩ := hP.out _ hb4) | (gi_at_call 31; refine (hcH _ aB).mono ?_; rintro e w5 ⟨rfl, hb5⟩; clear a0 a2 a6 a7 af aI aZ aB; obtain ⟨a0, a2, a6, a7, af, aI, aZ, aB⟩ := hP.out _ hb5) | (gi_at_builtin; refine wpListIn_app rfl (.tmp 30) (.tmp 33) 56 rfl SIz rfl (own_keptS aI.own (fun j hj => (below_alloc' w5 _).block j (by have := aI.lt j hj; omega))) rfl (m := 1) (news := [.int .i64 xh]) rfl (Rd.of_blk (g := w5.heap.size) (blk_new _ _ rfl) (Nat.lt_succ_self _)) (by intro u hu; simp at hu; subst hu; rfl) (by unfold maxLen; omega) (by omega) (by simp; omega) ?_; intro v2 w6 hO6 hg6 hat6; clear hat6; obtain ⟨A8, c8, rfl⟩ := own_formS hO6; have g1 := cell_grownO (A := w5.alloc (.cells #[.int .i64 xh] 3)) (((below_alloc' w5 _).cell (p := ⟨w1.heap.size + 1, 0, none⟩) (cell_ltS a7)).trans a7) hg6 (fun e => by have := (aI.own.lt _ e.symm).1; simp at this; omega); have g2 := frozen_grownO (A := w5.alloc (.cells #[.int .i64 xh] 3)) (((below_alloc' w5 _).cell (p := ⟨w1.heap.size + 1, 0, none⟩) (cell_ltS a7)).trans a7) ((World.frozen?_of_block ((below_alloc' w5 _).block (w1.heap.size + 1) (cell_ltS a7))).trans af) hg6 (fun e => by have := (aI.own.lt _ e.symm).1; simp at this; omega); have hfl := Lib.hid (fn_step aI hg6 hO6 (by omega) (by omega)) ))
          have hf := hfl.out
          refine ⟨⟨by have := hg6.size; simp at this ⊢; omega, fun k hk hne => ?_⟩, _, by rw [hsn.out, hcb.out]; simpa using hf⟩
          exact (fn_same hg6 aB hk hne hMW (fun j hj => (aI.own.lt j hj).1))
        · gi_wp2_with (first | (gi_at_call 30; refine hcM.mono ?_; rintro e w4 ⟨rfl, hb4⟩; obtain ⟨a0, a2, a6, a7, af, aI, aZ, aB⟩ := hP.out _ hb4) | (gi_at_call 31; refine (hcH _ aB).mono ?_; rintro e w5 ⟨rfl, hb5⟩; clear a0 a2 a6 a7 af aI aZ aB; obtain ⟨a0, a2, a6, a7, af, aI, aZ, aB⟩ := hP.out _ hb5))
          exact ⟨KeptM.of_below hMW aB, sv, by rw [hsn.out, hcb.out]; simpa using aI.more (by omega) (Nat.le_refl _)⟩
  · rintro M W hM ⟨sv, hL⟩ hd
    obtain ⟨A5, c5, rfl⟩ := own_formS hL.own
    have hcell := hL.cell
    gi_wp2
    refine ⟨by simp, .inl ⟨_, _, rfl, run_takeDeferred hd, ?_⟩⟩
    have hg := grownBy_putObj' W (W6.alloc (.cells #[.slice none 0 0] 56)).heap.size (.deferred none)
    rw [hz7] at hM
    have hL2 := hL.grown (by omega) hg (by rw [hz7]; omega) (by rw [hz7]; omega)
    refine ⟨_, results_tmp rfl _ _ _, A5, c5, rfl, Rd.of_own hL2.own, ?_⟩
    exact hbW6.trans (hL2.bel.mono (by omega))
end Go.Proofs.Ytakooljbkjnilaa
namespace Go.Proofs.Ytakooljbkjnilaa
open Go.ChangeShapes Go.WideShapes Go.ChangeAt Go.RowKit
set_option maxHeartbeats 1000000
set_option maxRecDepth 100000
attribute [local go_sem] kp_refl kp_alloc kp_setCell kp_drew kp_drewN row_new row_old rowAt_new rowAt_old

def setM (es : List (Int × Value)) (k : Int) (v : Value) : List (Int × Value) := es.map fun p => if p.1 == k then (k, v) else p
theorem insert_first (x : Lit × DataW Value) (l : List (Lit × DataW Value)) (h : ∀ y ∈ l, x.1.before y.1 = true) : DataW.insert x l = x :: l := by
  cases l with
  | nil => rfl
  | cons y r => unfold DataW.insert; rw [if_pos (h y (by simp))]
theorem setM_eq (es : List (Int × Value)) (k : Int) (v : Value) (ha : es.Pairwise fun p q => p.1 < q.1) (hk : ∃ p ∈ es, p.1 = k) : (DM es).put (.int .i64 k) (.held v) = DM (setM es k v) := by
  unfold DM
  simp only [DataW.put]
  congr 1
  induction es with
  | nil => simp at hk
  | cons p r ih =>
    obtain ⟨h1, h2⟩ := List.pairwise_cons.1 ha
    by_cases hp : p.1 = k
    · have hr : ∀ q ∈ r, (q.1 == k) = false := fun q hq => by have := h1 q hq; rw [beq_eq_false_iff_ne]; omega
      have e1 : (r.map entM).filter (fun q => !q.1.sameKey (Lit.int .i64 k)) = r.map entM := by
        rw [List.filter_eq_self]
        intro x hx
        obtain ⟨q, hq, rfl⟩ := List.mem_map.1 hx
        simp only [entM, same_int, hr q hq]; rfl
      have e2 : setM r k v = r := by
        unfold setM
        rw [List.map_congr_left (g := id) (fun q hq => by rw [hr q hq]; rfl), List.map_id]
      have e3 : setM (p :: r) k v = (k, v) :: r := by
        show (if p.1 == k then (k, v) else p) :: setM r k v = _
        rw [e2, if_pos (by simpa using hp)]
      rw [e3, List.map_cons, List.filter_cons_of_neg (by simp only [entM, same_int, hp]; simp), e1, insert_first]
      · simp [entM]
      · intro y hy
        obtain ⟨q, hq, rfl⟩ := List.mem_map.1 hy
        have := h1 q hq
        simp only [entM, before_int]
        simp; omega
    · have hk' : ∃ q ∈ r, q.1 = k := by
        obtain ⟨q, hq, e⟩ := hk
        rcases List.mem_cons.1 hq with h | h
        · subst h; exact absurd e hp
        · exact ⟨q, h, e⟩
      obtain ⟨q, hq, e⟩ := hk'
      have hlt := h1 q hq
      have e3 : setM (p :: r) k v = p :: setM r k v := by
        show (if p.1 == k then (k, v) else p) :: setM r k v = _
        rw [if_neg (by simpa using hp)]
      have hpb : (p.1 == k) = false := by simpa using hp
      rw [e3, List.map_cons, List.filter_cons_of_pos (by simp only [entM, same_int, hpb]; rfl), List.map_cons, ← ih h2 ⟨q, hq, e⟩]
      show DataW.insert _ (entM p :: _) = _
      conv => lhs; unfold DataW.insert
      rw [if_neg (by simp only [entM, before_int]; simp; omega)]
theorem setM_keys (es : List (Int × Value)) (k : Int) (v : Value) : (setM es k v).map (·.1) = es.map (·.1) := by
  unfold setM
  rw [List.map_map]
  refine List.map_congr_left fun p _ => ?_
  show (if p.1 == k then (k, v) else p).1 = p.1
  split
  · rename_i h; exact (by simpa using h : p.1 = k).symm
  · rfl
theorem MpAt.set {w w' : World} {b n : Nat} {es : List (Int × Value)} {k : Int} {v : Value} (h : MpAt w b es) (hk : ∃ p ∈ es, p.1 = k) (hown : w'.ownsMap Try.prog 3 RV b n ((DM es).put (.int .i64 k) (.held v))) : MpAt w' b (setM es k v) := by
  rw [setM_eq es k v h.asc hk] at hown
  refine MpAt.of hown ?_ ?_
  · have h1 : (es.map fun p => p.1).Pairwise fun a b => a < b := List.pairwise_map.2 h.asc
    have h2 : ((setM es k v).map fun p => p.1).Pairwise fun a b => a < b := by rw [setM_keys]; exact h1
    exact List.pairwise_map.1 h2
  · intro p hp
    unfold setM at hp
    obtain ⟨q, hq, rfl⟩ := List.mem_map.1 hp
    have := h.wf q hq
    split
    · rename_i e; have e2 : q.1 = k := by simpa using e
      rw [← e2]; exact this
    · exact this
def setO (l : List Hd) (k : Int) (x : Hd) : List Hd := l.map fun y => if y.h == k then x else y
theorem set_hd (l : List Hd) (k : Int) (x : Hd) (hx : x.h = k) : setM (hdM l) k x.val = hdM (setO l k x) := by
  unfold setM hdM setO
  rw [List.map_map, List.map_map]
  refine List.map_congr_left fun y _ => ?_
  show (if y.h == k then (k, x.val) else (y.h, y.val)) = ((if y.h == k then x else y).h, (if y.h == k then x else y).val)
  split
  · rw [hx]
  · rfl
theorem setO_mem {l : List Hd} {k : Int} {x y : Hd} (h : y ∈ setO l k x) : y ∈ l ∨ y = x := by
  unfold setO at h
  obtain ⟨z, hz, rfl⟩ := List.mem_map.1 h
  split
  · exact .inr rfl
  · exact .inl hz
/-- What Set does. -/
def SetSR (g bm : Nat) (most next k : Int) (l : List Hd) (s : List KV) (w : World) (e : Ending) (w' : World) : Prop :=
  match findO l k with
  | none => e = .returned (.int .i64 6) ∧ StAt w' g bm most next l ∧ StepS g bm l l w w'
  | some y => ∃ x : Hd, e = .returned (.int .i64 0) ∧ x.ob = (k, y.o, s) ∧ StAt w' g bm most next (setO l k x) ∧ StepS g bm l (setO l k x) w w'
theorem store_Set (g bm : Nat) (most next k : Int) (l : List Hd) (A : Option Addr) (al : List At) (c : Nat) (w : World) (h : StAt w g bm most next l) (hk : (Lit.int .i64 k).wf = true) (hA : Ats w w.heap.size A al) (hal : al.length ≤ 4398046511104) (hll : l.length ≤ 100000) :
    Calls Try.prog 16 #[.pointer (some ⟨g, 0, none⟩), .int .i64 k, .slice A al.length c] w (SetSR g bm most next k l (al.map At.kv) w) := by
  obtain ⟨c0, c1, c2, cf⟩ := h.c
  have hlt := h.lt
  have hgne := h.ne
  have hbl := h.mp.lt
  have hr := run_look h.mp hk (t := 40) Try.underlying40 (zero_hd w)
  rw [look_hd] at hr
  cases hf : findO l k with
  | none =>
    rw [hf] at hr
    simp only [Option.map_none, Option.getD_none, Option.isSome_none, hdZ] at hr
    have hb := below_alloc' w (.cells #[.int .i64 0, .int .i64 0, .slice none 0 0] 45)
    have hst := Lib.hid (h.step hb)
    have hfH := Lib.hid hf
    clear hf
    go_enter Try.func16, Try.ntmps16
    go_wp2
    go_ret
    unfold SetSR
    rw [hfH.out]
    exact ⟨rfl, hst.out, But.of_below hb, fun x hx => .inl hx⟩
  | some y =>
    rw [hf] at hr
    have hfH := Lib.hid hf
    have hym := Lib.hid (findO_mem hf)
    obtain ⟨yh, yo, yA, yc, yl⟩ := y
    simp only [Option.map_some, Option.getD_some, Option.isSome_some, Hd.val] at hr
    have hb := below_alloc' w (.cells #[.int .i64 yh, .int .i64 yo, .slice yA yl.length yc] 45)
    have h1 := h.step hb
    have hA1 := (hA.step hb)
    have b3 := B3.new w (.int .i64 yh) (.int .i64 yo) (.slice yA yl.length yc) 45
    have hz1 : w.heap.size + 1 = (w.alloc (.cells #[.int .i64 yh, .int .i64 yo, .slice yA yl.length yc] 45)).heap.size := by simp
    clear hf
    go_enter Try.func16, Try.ntmps16
    go_upto_region 4 with (fail)
    generalize w.alloc (.cells #[.int .i64 yh, .int .i64 yo, .slice yA yl.length yc] 45) = W at *
    have ho := Lib.hid (store_ownA A al c W hA1 hal)
    go_wp2_with fail
    refine ho.out.mono ?_
    rintro e w4 ⟨A', c', l', rfl, hO⟩
    have hz4 := hO.bel.size
    have s3 := b3.step hO.bel
    obtain ⟨p0, p1, p2, pf⟩ := s3.c
    have h4 := h1.step hO.bel
    have hats : AtsP (fun k => W.heap.size ≤ k ∧ k < w4.heap.size) (w4.setCell ⟨w.heap.size, 2, none⟩ (.slice A' l'.length c')) A' l' := hO.ats.kept (fun k _ hk => Below.heap_setCell _ _ _ _ (by have := hk.1; show k ≠ w.heap.size; omega)) (by simp)
    have hbV : Below w.heap.size w (w4.setCell ⟨w.heap.size, 2, none⟩ (.slice A' l'.length c')) := (hb.trans (hO.bel.mono (by omega))).setCell (p := ⟨w.heap.size, 2, none⟩) (Nat.le_refl _) _
    have h5 := h.step hbV
    have s5 := s3.set2 (.slice A' l'.length c')
    have hzV : w4.heap.size = (w4.setCell ⟨w.heap.size, 2, none⟩ (.slice A' l'.length c')).heap.size := by simp
    go_upto_region 5 with (fail)
    generalize w4.setCell ⟨w.heap.size, 2, none⟩ (.slice A' l'.length c') = V5 at *
    have hD := Lib.hid (fun V (hV : Below V5.heap.size V5 V) => h5.step hV)
    have hE := Lib.hid (fun V (hV : Below V5.heap.size V5 V) => s5.step hV)
    have hx5 : HdOk (fun k => w.heap.size ≤ k ∧ k < V5.heap.size) V5 ⟨yh, yo, A', c', l'⟩ := ⟨hats.weaken fun k hk => ⟨by omega, by omega⟩, hO.len, hO.cap, by have e1 := congrArg List.length hO.kv; rw [List.length_map, List.length_map] at e1; show l'.length ≤ _; rw [e1]; exact hal⟩
    have hX := Lib.hid (fun V (hV : Below V5.heap.size V5 V) => hx5.kept (fun k hk _ => hV.block k hk) hV.size)
    have hkv := Lib.hid hO.kv
    have hyk : yh = k := hym.out.2
    have hbX := Lib.hid (fun V (hV : Below V5.heap.size V5 V) => hbV.trans (hV.mono hbV.size))
    clear h5 s5 s3 h4 h1 hA1 b3 p0 p1 p2 pf hr hO hats hx5 hbV hb ho c0 c1 c2 cf hA
    subst hyk
    generalize ha0 : Act.mk _ _ = a0
    have e0 : a0.tmps[0]?.getD undef = .pointer (some ⟨g, 0, none⟩) := by rw [← ha0]; rfl
    have e1 : a0.tmps[1]?.getD undef = .int .i64 yh := by rw [← ha0]; rfl
    have e7 : a0.tmps[7]?.getD undef = .pointer (some ⟨w.heap.size, 0, none⟩) := by rw [← ha0]; rfl
    have hz0 : a0.tmps.size = 29 := by rw [← ha0]; rfl
    have hha0 := Lib.hid ha0
    clear ha0
    refine wp_region_tailL (fun jx_ => match jx_ with | 0 => SRel.is (.pointer (some ⟨g, 0, none⟩)) | 1 => SRel.is (.pointer (some ⟨g, 0, none⟩)) | 2 => SRel.is (.pointer (some ⟨g, 2, none⟩)) | 3 => SRel.is (.map (some bm)) | 4 => SRel.is (.int .i64 yh) | 5 => SRel.is (.agg #[.int .i64 yh, .int .i64 yo, .slice A' l'.length c']) | 6 => SRel.any | _ => SRel.any) 6 (by kernel_rfl) (by kernel_rfl) (by kernel_rfl) (slotsOk_of hz0 (by kernel_rfl)) (by kernel_rfl) (of_decide_eq_true (by kernel_rfl)) ⟨?_, ?_, ?_, ?_, ?_, ?_, trivial⟩ ?_
    · refine calmL_step rfl fun a ω κ hb hu hc hK => ?_
      have h0 : a.tmps[0]?.getD undef = .pointer (some ⟨g, 0, none⟩) := (hu 0 rfl).trans e0
      have hk := Lib.hid (fun w1 (h : Below ω.heap.size ω w1) => hK (.pointer (some ⟨g, 0, none⟩)) w1 rfl h)
      clear hK hu hc
      go_simp
      exact hk.out _ (Below.refl _ _)
    · refine calmL_step rfl fun a ω κ hb hu hc hK => ?_
      have h23 : a.tmps[23]?.getD undef = .pointer (some ⟨g, 0, none⟩) := hc 0 23 rfl rfl
      have hk := Lib.hid (fun w1 (h : Below ω.heap.size ω w1) => hK (.pointer (some ⟨g, 0, none⟩)) w1 rfl h)
      clear hK hu hc
      go_simp
      exact hk.out _ (Below.refl _ _)
    · refine calmL_step rfl fun a ω κ hb hu hc hK => ?_
      have h24 : a.tmps[24]?.getD undef = .pointer (some ⟨g, 0, none⟩) := hc 1 24 rfl rfl
      have hk := Lib.hid (fun w1 (h : Below ω.heap.size ω w1) => hK (.pointer (some ⟨g, 2, none⟩)) w1 rfl h)
      clear hK hu hc
      go_simp
      exact hk.out _ (Below.refl _ _)
    · refine calmL_step rfl fun a ω κ hb hu hc hK => ?_
      have h25 : a.tmps[25]?.getD undef = .pointer (some ⟨g, 2, none⟩) := hc 2 25 rfl rfl
      have hk := Lib.hid (fun w1 (h : Below ω.heap.size ω w1) => hK (.map (some bm)) w1 rfl h)
      clear hK hu hc
      obtain ⟨e0, e1, e2, ef⟩ := (hD.out ω hb).c
      go_simp
      exact hk.out _ (Below.refl _ _)
    · refine calmL_step rfl fun a ω κ hb hu hc hK => ?_
      have h1 : a.tmps[1]?.getD undef = .int .i64 yh := (hu 1 rfl).trans e1
      have hk := Lib.hid (fun w1 (h : Below ω.heap.size ω w1) => hK (.int .i64 yh) w1 rfl h)
      clear hK hu hc
      go_simp
      exact hk.out _ (Below.refl _ _)
    · refine calmL_step rfl fun a ω κ hb hu hc hK => ?_
      have h7 : a.tmps[7]?.getD undef = .pointer (some ⟨w.heap.size, 0, none⟩) := (hu 7 rfl).trans e7
      have hk := Lib.hid (fun w1 (h : Below ω.heap.size ω w1) => hK (.agg #[.int .i64 yh, .int .i64 yo, .slice A' l'.length c']) w1 rfl h)
      clear hK hu hc
      obtain ⟨e0, e1, e2, ef⟩ := (hE.out ω hb).c
      go_simp
      exact hk.out _ (Below.refl _ _)
    · intro aa ω hb hu hsz hdf hc
      have h23 : aa.tmps[23]?.getD undef = .pointer (some ⟨g, 0, none⟩) := hc 0 23 (by decide) rfl
      have h24 : aa.tmps[24]?.getD undef = .pointer (some ⟨g, 0, none⟩) := hc 1 24 (by decide) rfl
      have h25 : aa.tmps[25]?.getD undef = .pointer (some ⟨g, 2, none⟩) := hc 2 25 (by decide) rfl
      have h26 : aa.tmps[26]?.getD undef = .map (some bm) := hc 3 26 (by decide) rfl
      have h27 : aa.tmps[27]?.getD undef = .int .i64 yh := hc 4 27 (by decide) rfl
      have h28 : aa.tmps[28]?.getD undef = .agg #[.int .i64 yh, .int .i64 yo, .slice A' l'.length c'] := hc 5 28 (by decide) rfl
      have ha0 := hha0.out
      subst ha0
      have he := act_patchL (n := 29) 6 [false, false, false, false, false, false, false, false, false, false, false, false, false, false, false, false, false, false, false, false, false, false, false, true, true, true, true, true, true] rfl (by kernel_rfl) hu hsz hdf
      simp only [patch, cond_true, cond_false, Nat.reduceAdd] at he
      clear hu hsz hdf hc hha0 e0 e1 e7 hz0
      rw [he]
      clear he
      generalize aa.tmps[23]?.getD undef = x23 at *
      generalize aa.tmps[24]?.getD undef = x24 at *
      generalize aa.tmps[25]?.getD undef = x25 at *
      generalize aa.tmps[26]?.getD undef = x26 at *
      generalize aa.tmps[27]?.getD undef = x27 at *
      generalize aa.tmps[28]?.getD undef = x28 at *
      subst h23 h24 h25 h26 h27 h28
      have hdk := hD.out ω hb
      have hXx := Lib.hid (hX.out ω hb)
      have hBx := Lib.hid (But.of_below (g := g) (b := bm) (hbX.out ω hb))
      have hzx := Lib.hid hb.size
      have hkey := Maps.keyOf_int_mk (P := Try.prog) Try.underlying3 hk
      have hown := Lib.hid hdk.mp.own
      have hlen : (hdM l).length < maxLen := by unfold hdM maxLen; rw [List.length_map]; omega
      have hin := Lib.hid (show ∃ p ∈ hdM l, p.1 = yh from ⟨(yh, _), List.mem_map.2 ⟨_, hym.out.1, rfl⟩, rfl⟩)
      have hsub := Lib.hid (fun z (hz : z ∈ setO l yh ⟨yh, yo, A', c', l'⟩) => (show HdOk (fun k => k ≠ g ∧ k ≠ bm) ω z from by
        rcases setO_mem hz with e | e
        · exact hdk.at_ z e
        · subst e; exact hXx.out.weaken fun k hk => ⟨by omega, by omega⟩))
      dsimp only [List.drop]
      go_wp2_with (at_mapUpdate; refine wpList_mapUpdate_in _ rfl _ _ _ 40 rfl 3 45 (Maps.int_keyed Try.underlying3) Try.underlying40 RV bm _ _ rfl hown.out hlen _ _ _ rfl rfl hkey (.held (.agg #[.int .i64 yh, .int .i64 yo, .slice A' l'.length c'])) [] rfl ?_; intro w6 hown6 hturn6; have h6 := hdk.turn hturn6 (by rw [← set_hd l yh ⟨yh, yo, A', c', l'⟩ rfl]; exact hdk.mp.set hin.out hown6) hsub.out; have hB6 := But.of_grown (g := g) hturn6.grown (.inr (.inl rfl)))
      go_ret
      unfold SetSR
      rw [hfH.out]
      refine ⟨⟨yh, yo, A', c', l'⟩, rfl, by show (_, _, _) = (_, _, _); rw [hkv.out], h6, hBx.out.trans hB6, fun x hx => ?_⟩
      rcases setO_mem hx with e | e
      · exact .inl e
      · subst e
        exact .inr ((hXx.out.kept (fun k hk hp => hturn6.grown.block k hk (fun e => by injection e; omega)) hturn6.grown.size).weaken fun k hk => ⟨hk.1, by have := hk.2; have := hzx.out; have := hturn6.grown.size; omega⟩)
end Go.Proofs.Ytakooljbkjnilaa
namespace Go.Proofs.Ytakooljbkjnilaa
open Go.ChangeShapes Go.WideShapes Go.ChangeAt Go.RowKit
set_option maxHeartbeats 1000000
set_option maxRecDepth 100000
attribute [local go_sem] kp_refl kp_alloc kp_setCell kp_drew kp_drewN row_new row_old rowAt_new rowAt_old

/-- Attributes in memory from block B on. -/
def FrA (B : Nat) (s : List KV) (A : Option Addr) (c : Nat) (l : List At) (w : World) : Prop := l.map At.kv = s ∧ AtsP (fun k => B ≤ k ∧ k < w.heap.size) w A l ∧ l.length ≤ c ∧ c ≤ maxLen
theorem FrA.step {B : Nat} {s : List KV} {A : Option Addr} {c : Nat} {l : List At} {w w' : World} (h : FrA B s A c l w) (hb : Below w.heap.size w w') : FrA B s A c l w' :=
  ⟨h.1, (h.2.1.step hb).weaken fun _ hk => ⟨hk.1, Nat.lt_of_lt_of_le hk.2 hb.size⟩, h.2.2⟩
def SRel.fa (B : Nat) (s : List KV) : SRel := ⟨fun v w => ∃ A c, ∃ l : List At, v = .slice A l.length c ∧ FrA B s A c l w, fun _ _ _ hb ⟨A, c, l, h1, h2⟩ => ⟨A, c, l, h1, h2.step hb⟩⟩
def SRel.fh (B : Nat) (s : List KV) (h o : Int) : SRel := ⟨fun v w => ∃ A c, ∃ l : List At, v = .agg #[.int .i64 h, .int .i64 o, .slice A l.length c] ∧ FrA B s A c l w, fun _ _ _ hb ⟨A, c, l, h1, h2⟩ => ⟨A, c, l, h1, h2.step hb⟩⟩
section
variable {P : Program} {o : Oper} {a : Act} {w : World} {K : Act → World → Prop} {Q : Exit → Act → World → Prop} {t : TypeId} {i j k : Nat} {x y z : Operand} {u vx vy vz : Value}
theorem wp_bld3N (ho : o.op = .build t #[(i, x), (j, y), (k, z)]) (hx : a.eval x = vx) (hy : a.eval y = vy) (hz : a.eval z = vz) (hr : (Instr.build t #[(i, vx), (j, vy), (k, vz)]).run P w = .ok u w) (h : K (a.put o.dst u) w) : Oper.wp P o a w K Q := by
  subst hx hy hz
  obtain ⟨dst, op, tt, pos, af, gd⟩ := o
  subst ho
  unfold Oper.wp execOp
  simp only [List.map_toArray, List.map_cons, List.map_nil, Sem.run_bind, hr, Result.andThen_ok]
  exact h
end
theorem eval_tmpS {a : Act} {t : Tmp} {v : Value} (h : a.tmps[t]?.getD undef = v) : a.eval (.tmp t) = v := by
  unfold Act.eval; simpa using h
theorem build_hd (h o : Int) (A : Option Addr) (n c : Nat) (w : World) : (Instr.build 45 #[(0, .int .i64 h), (1, .int .i64 o), (2, .slice A n c)]).run Try.prog w = .ok (.agg #[.int .i64 h, .int .i64 o, .slice A n c]) w := run_build w _ _ _ (by kernel_rfl)
theorem StAt.dN {w : World} {g bm : Nat} {most next : Int} {l : List Hd} (h : StAt w g bm most next l) (n : Nat) : StAt (w.drewN n) g bm most next l := h.kept (fun _ _ => rfl) (Nat.le_refl _)
theorem but_dNS (g b : Nat) (w : World) (n : Nat) : But g b w (w.drewN n) := ⟨rfl, rfl, rfl, Nat.le_refl _, fun _ _ _ _ => rfl⟩
theorem hd_push (l : List Hd) (x : Hd) : hdM (l ++ [x]) = hdM l ++ [(x.h, x.val)] := by simp [hdM]
theorem StAt.nxt {w : World} {g bm : Nat} {most next : Int} {l : List Hd} (h : StAt w g bm most next l) (z : Int) : StAt (w.setCell ⟨g, 1, none⟩ (.int .i64 z)) g bm most z l := by
  refine ⟨?_, ⟨h.mp.own.setCell (fun e => h.ne e.symm) _, h.mp.asc, h.mp.wf⟩, fun x hx => (h.at_ x hx).kept (fun k _ hk => Below.heap_setCell _ _ _ _ hk.1) (by simp)⟩
  obtain ⟨te, h1⟩ := h.cells
  refine ⟨te, ?_⟩
  have hlt := h.lt
  simp only [World.setCell, Array.getElem?_modify]
  simp [h1]
/-- What Put does. -/
def PutSR (g bm : Nat) (most next o : Int) (l : List Hd) (s : List KV) (w : World) (e : Ending) (w' : World) : Prop :=
  if most ≤ (l.length : Int) ∨ next = 1073741824 then e = .returned (.tuple #[.int .i64 0, .int .i64 7]) ∧ StAt w' g bm most next l ∧ StepS g bm l l w w'
  else ∃ x : Hd, e = .returned (.tuple #[.int .i64 next, .int .i64 0]) ∧ x.ob = (next, o, s) ∧ StAt w' g bm most (next + 1) (l ++ [x]) ∧ StepS g bm l (l ++ [x]) w w'
set_option maxHeartbeats 4000000 in
theorem store_Put (g bm : Nat) (most next k : Int) (l : List Hd) (A : Option Addr) (al : List At) (c : Nat) (w : World) (h : StAt w g bm most next l) (hn : 1 ≤ next ∧ next ≤ 1073741824) (hid : ∀ x ∈ l, x.h < next) (B : Nat) (hA : Ats w B A al) (hBg : B ≤ g) (hal : al.length ≤ 4398046511104) (hll : l.length ≤ 100000) :
    Calls Try.prog 14 #[.pointer (some ⟨g, 0, none⟩), .slice A al.length c, .int .i64 k] w (PutSR g bm most next k l (al.map At.kv) w) := by
  obtain ⟨c0, c1, c2, cf⟩ := h.c
  have hlt := h.lt
  have hln := fun ty n => run_mplen (h.dN n).mp (t := 40) Try.underlying40 ty
  rw [show (hdM l).length = l.length from by unfold hdM; rw [List.length_map]] at hln
  have hH := Lib.hid h
  by_cases hf : most ≤ (l.length : Int)
  · have hd : decide ((l.length : Int) ≥ most) = true := by simpa using hf
    have hd2 : decide (most ≤ (l.length : Int)) = true := by simpa using hf
    have hfH := Lib.hid hf
    clear h hf
    go_enter Try.func14, Try.ntmps14
    go_wp2
    go_quiet (fail)
    go_wp2
    go_ret2
    unfold PutSR
    rw [if_pos (.inl hfH.out)]
    exact ⟨rfl, hH.out.dN _, but_dNS _ _ _ _, fun x hx => .inl hx⟩
  · have hd : decide ((l.length : Int) ≥ most) = false := by simpa using hf
    have hd2 : decide (most ≤ (l.length : Int)) = false := by simpa using hf
    by_cases hnx : next = 1073741824
    · subst hnx
      clear h hf
      go_enter Try.func14, Try.ntmps14
      go_wp2
      go_quiet (fail)
      go_wp2
      go_ret2
      unfold PutSR
      rw [if_pos (.inr rfl)]
      exact ⟨rfl, hH.out.dN _, but_dNS _ _ _ _, fun x hx => .inl hx⟩
    · have hd3 : (next == 1073741824) = false := by simpa using hnx
      have hno := Lib.hid (show ¬ (most ≤ (l.length : Int) ∨ next = 1073741824) from fun e => e.elim hf hnx)
      have hwp : IntKind.i64.wrap (next + 1) = next + 1 := by rw [IntKind.wrap_i64]; omega
      clear h hf hnx
      have hA0 := Lib.hid hA
      go_enter Try.func14, Try.ntmps14
      go_wp2
      go_quiet (fail)
      generalize hW1 : w.drewN _ = w1
      have hB1 : Hid (But g bm w w1) := by rw [← hW1]; exact but_dNS _ _ _ _
      have h1 : StAt w1 g bm most next l := by rw [← hW1]; exact hH.out.dN _
      have hA1 : Ats w1 B A al := by rw [← hW1]; exact hA0.out.kp fun _ _ => rfl
      have hz1 : w1.heap.size = w.heap.size := by rw [← hW1]; rfl
      have hz1 := Lib.hid hz1
      clear hW1 hln c0 c1 c2 cf hA
      obtain ⟨c0, c1, c2, cf⟩ := h1.c
      have hlt1 := h1.lt
      have hD1 := h1.nxt (next + 1)
      have hB2 := Lib.hid (hB1.out.trans (but_setCell (w := w1) (b := bm) ⟨g, 1, none⟩ (.int .i64 (next + 1)) (.inl rfl)))
      go_upto_region 5 with (fail)
      have hA2 : Ats (w1.setCell ⟨g, 1, none⟩ (.int .i64 (next + 1))) B A al := hA1.kp fun k hk => Below.heap_setCell _ _ _ _ (by show k ≠ g; omega)
      have hz2 : Hid ((w1.setCell ⟨g, 1, none⟩ (.int .i64 (next + 1))).heap.size = w.heap.size) := by show _ = _; rw [← hz1.out]; simp
      generalize w1.setCell ⟨g, 1, none⟩ (.int .i64 (next + 1)) = w2 at *
      have hD := Lib.hid (fun V (hV : Below w2.heap.size w2 V) => hD1.step hV)
      have hAo := Lib.hid (fun V (hV : Below w2.heap.size w2 V) => (hA2.more (by have := hD1.lt; omega)).step hV)
      clear hD1 h1 c0 c1 c2 cf hlt1 hA1 hA2
      generalize ha0 : Act.mk _ _ = a0
      have e0 : a0.tmps[0]?.getD undef = .pointer (some ⟨g, 0, none⟩) := by rw [← ha0]; rfl
      have e1 : a0.tmps[1]?.getD undef = .slice A al.length c := by rw [← ha0]; rfl
      have e2 : a0.tmps[2]?.getD undef = .int .i64 k := by rw [← ha0]; rfl
      have e8 : a0.tmps[8]?.getD undef = .int .i64 next := by rw [← ha0]; rfl
      have hz0 : a0.tmps.size = 48 := by rw [← ha0]; rfl
      have hha0 := Lib.hid ha0
      clear ha0
      refine wp_region_tailL (fun jx_ => match jx_ with | 0 => SRel.is (.pointer (some ⟨g, 0, none⟩)) | 1 => SRel.is (.pointer (some ⟨g, 0, none⟩)) | 2 => SRel.is (.pointer (some ⟨g, 2, none⟩)) | 3 => SRel.is (.map (some bm)) | 4 => SRel.is (.int .i64 next) | 5 => SRel.is (.int .i64 next) | 6 => SRel.is (.int .i64 k) | 7 => SRel.is (.slice A al.length c) | 8 => SRel.fa w2.heap.size (al.map At.kv) | 9 => SRel.fh w2.heap.size (al.map At.kv) next k | 10 => SRel.any | _ => SRel.any) 10 (by kernel_rfl) (by kernel_rfl) (by kernel_rfl) (slotsOk_of hz0 (by kernel_rfl)) (by kernel_rfl) (of_decide_eq_true (by kernel_rfl)) ⟨?_, ?_, ?_, ?_, ?_, ?_, ?_, ?_, ?_, ?_, trivial⟩ ?_
      · refine calmL_step rfl fun a ω κ hb hu hc hK => ?_
        have h0 : a.tmps[0]?.getD undef = .pointer (some ⟨g, 0, none⟩) := (hu 0 rfl).trans e0
        have hk := Lib.hid (fun w1 (h : Below ω.heap.size ω w1) => hK (.pointer (some ⟨g, 0, none⟩)) w1 rfl h)
        clear hK hu hc
        go_simp
        exact hk.out _ (Below.refl _ _)
      · refine calmL_step rfl fun a ω κ hb hu hc hK => ?_
        have h37 : a.tmps[37]?.getD undef = .pointer (some ⟨g, 0, none⟩) := hc 0 37 rfl rfl
        have hk := Lib.hid (fun w1 (h : Below ω.heap.size ω w1) => hK (.pointer (some ⟨g, 0, none⟩)) w1 rfl h)
        clear hK hu hc
        go_simp
        exact hk.out _ (Below.refl _ _)
      · refine calmL_step rfl fun a ω κ hb hu hc hK => ?_
        have h38 : a.tmps[38]?.getD undef = .pointer (some ⟨g, 0, none⟩) := hc 1 38 rfl rfl
        have hk := Lib.hid (fun w1 (h : Below ω.heap.size ω w1) => hK (.pointer (some ⟨g, 2, none⟩)) w1 rfl h)
        clear hK hu hc
        go_simp
        exact hk.out _ (Below.refl _ _)
      · refine calmL_step rfl fun a ω κ hb hu hc hK => ?_
        have h39 : a.tmps[39]?.getD undef = .pointer (some ⟨g, 2, none⟩) := hc 2 39 rfl rfl
        have hk := Lib.hid (fun w1 (h : Below ω.heap.size ω w1) => hK (.map (some bm)) w1 rfl h)
        clear hK hu hc
        obtain ⟨e0, e1, e2, ef⟩ := (hD.out ω hb).c
        go_simp
        exact hk.out _ (Below.refl _ _)
      · refine calmL_step rfl fun a ω κ hb hu hc hK => ?_
        have h8 : a.tmps[8]?.getD undef = .int .i64 next := (hu 8 rfl).trans e8
        have hk := Lib.hid (fun w1 (h : Below ω.heap.size ω w1) => hK (.int .i64 next) w1 rfl h)
        clear hK hu hc
        go_simp
        exact hk.out _ (Below.refl _ _)
      · refine calmL_step rfl fun a ω κ hb hu hc hK => ?_
        have h8 : a.tmps[8]?.getD undef = .int .i64 next := (hu 8 rfl).trans e8
        have hk := Lib.hid (fun w1 (h : Below ω.heap.size ω w1) => hK (.int .i64 next) w1 rfl h)
        clear hK hu hc
        go_simp
        exact hk.out _ (Below.refl _ _)
      · refine calmL_step rfl fun a ω κ hb hu hc hK => ?_
        have h2 : a.tmps[2]?.getD undef = .int .i64 k := (hu 2 rfl).trans e2
        have hk := Lib.hid (fun w1 (h : Below ω.heap.size ω w1) => hK (.int .i64 k) w1 rfl h)
        clear hK hu hc
        go_simp
        exact hk.out _ (Below.refl _ _)
      · refine calmL_step rfl fun a ω κ hb hu hc hK => ?_
        have h1 : a.tmps[1]?.getD undef = .slice A al.length c := (hu 1 rfl).trans e1
        have hk := Lib.hid (fun w1 (h : Below ω.heap.size ω w1) => hK (.slice A al.length c) w1 rfl h)
        clear hK hu hc
        go_simp
        exact hk.out _ (Below.refl _ _)
      · refine calmL_step rfl fun a ω κ hb hu hc hK => ?_
        have h44 : a.tmps[44]?.getD undef = .slice A al.length c := hc 7 44 rfl rfl
        have hk := Lib.hid (fun v w1 (hv : (SRel.fa w2.heap.size (al.map At.kv)).p v w1) (h : Below ω.heap.size ω w1) => hK v w1 hv h)
        clear hK hu hc
        go_simp
        go_at_call 13
        refine (store_ownA A al c ω (hAo.out ω hb) hal).mono ?_
        rintro e w8 ⟨A8, c8, l8, rfl, hO⟩
        exact hk.out _ _ ⟨A8, c8, l8, rfl, hO.kv, hO.ats.weaken (fun _ hk => ⟨Nat.le_trans hb.size hk.1, hk.2⟩), hO.len, hO.cap⟩ hO.bel
      · refine calmL_step rfl fun a ω κ hb hu hc hK => ?_
        have h42 : a.tmps[42]?.getD undef = .int .i64 next := hc 5 42 rfl rfl
        have h43 : a.tmps[43]?.getD undef = .int .i64 k := hc 6 43 rfl rfl
        have h45 : (SRel.fa w2.heap.size (al.map At.kv)).p (a.tmps[45]?.getD undef) ω := hc 8 45 rfl rfl
        have hk := Lib.hid (fun v w1 (hv : (SRel.fh w2.heap.size (al.map At.kv) next k).p v w1) (h : Below ω.heap.size ω w1) => hK v w1 hv h)
        clear hK hu hc
        obtain ⟨A8, c8, l8, e8, hF⟩ := h45
        refine wp_bld3N rfl (vx := .int .i64 next) (vy := .int .i64 k) (vz := .slice A8 l8.length c8) (by go_simp) (by go_simp) (eval_tmpS e8) (build_hd next k A8 l8.length c8 ω) ?_
        exact hk.out _ _ ⟨A8, c8, l8, rfl, hF⟩ (Below.refl _ _)
      · intro aa ω hb hu hsz hdf hc
        have h37 : aa.tmps[37]?.getD undef = .pointer (some ⟨g, 0, none⟩) := hc 0 37 (by decide) rfl
        have h38 : aa.tmps[38]?.getD undef = .pointer (some ⟨g, 0, none⟩) := hc 1 38 (by decide) rfl
        have h39 : aa.tmps[39]?.getD undef = .pointer (some ⟨g, 2, none⟩) := hc 2 39 (by decide) rfl
        have h40 : aa.tmps[40]?.getD undef = .map (some bm) := hc 3 40 (by decide) rfl
        have h41 : aa.tmps[41]?.getD undef = .int .i64 next := hc 4 41 (by decide) rfl
        have h42 : aa.tmps[42]?.getD undef = .int .i64 next := hc 5 42 (by decide) rfl
        have h43 : aa.tmps[43]?.getD undef = .int .i64 k := hc 6 43 (by decide) rfl
        have h44 : aa.tmps[44]?.getD undef = .slice A al.length c := hc 7 44 (by decide) rfl
        have h46 : (SRel.fh w2.heap.size (al.map At.kv) next k).p (aa.tmps[46]?.getD undef) ω := hc 9 46 (by decide) rfl
        have ha0 := hha0.out
        subst ha0
        have he := act_patchL (n := 48) 10 [false, false, false, false, false, false, false, false, false, false, false, false, false, false, false, false, false, false, false, false, false, false, false, false, false, false, false, false, false, false, false, false, false, false, false, false, false, true, true, true, true, true, true, true, true, true, true, false] rfl (by kernel_rfl) hu hsz hdf
        simp only [patch, cond_true, cond_false, Nat.reduceAdd] at he
        clear hu hsz hdf hc hha0 e0 e1 e2 e8 hz0
        rw [he]
        clear he
        generalize aa.tmps[37]?.getD undef = x37 at *
        generalize aa.tmps[38]?.getD undef = x38 at *
        generalize aa.tmps[39]?.getD undef = x39 at *
        generalize aa.tmps[40]?.getD undef = x40 at *
        generalize aa.tmps[41]?.getD undef = x41 at *
        generalize aa.tmps[42]?.getD undef = x42 at *
        generalize aa.tmps[43]?.getD undef = x43 at *
        generalize aa.tmps[44]?.getD undef = x44 at *
        generalize aa.tmps[45]?.getD undef = x45 at *
        generalize aa.tmps[46]?.getD undef = x46 at *
        subst h37 h38 h39 h40 h41 h42 h43 h44
        have hdk := hD.out ω hb
        obtain ⟨A8, c8, l8, rfl, hF⟩ := h46
        have hBx := Lib.hid (hB2.out.trans (But.of_below hb))
        have hkw : (Lit.int .i64 next).wf = true := by simp only [Lit.wf, Bool.and_eq_true, decide_eq_true_eq]; show (-9223372036854775808 : Int) ≤ _ ∧ _ ≤ (9223372036854775807 : Int); omega
        have hkey := Maps.keyOf_int_mk (P := Try.prog) Try.underlying3 hkw
        have hown := Lib.hid hdk.mp.own
        have hlen : (hdM l).length < maxLen := by unfold hdM maxLen; rw [List.length_map]; omega
        have hzb := hb.size
        have hx5 : HdOk (fun k => w2.heap.size ≤ k ∧ k < ω.heap.size) ω ⟨next, k, A8, c8, l8⟩ := ⟨hF.2.1, hF.2.2.1, hF.2.2.2, by have e1 := congrArg List.length hF.1; rw [List.length_map, List.length_map] at e1; show l8.length ≤ _; rw [e1]; exact hal⟩
        have hkv := Lib.hid hF.1
        have hgl := hH.out.lt
        have hbl := hH.out.mp.lt
        have hXx := Lib.hid hx5
        have hsub := Lib.hid (fun z (hz : z ∈ l ++ [⟨next, k, A8, c8, l8⟩]) => (show HdOk (fun k => k ≠ g ∧ k ≠ bm) ω z from by
          rcases List.mem_append.1 hz with e | e
          · exact hdk.at_ z e
          · have e : z = ⟨next, k, A8, c8, l8⟩ := by simpa using e
            subst e; exact hx5.weaken fun k hk => by have := hz2.out; have := hk.1; exact ⟨by omega, by omega⟩))
        have hlast := Lib.hid (fun p (hp : p ∈ hdM l) => (show p.1 < next from by obtain ⟨q, hq, rfl⟩ := List.mem_map.1 hp; exact hid q hq))
        clear hF hx5
        dsimp only [List.drop]
        go_wp2_with (at_mapUpdate; refine wpList_mapUpdate_in _ rfl _ _ _ 40 rfl 3 45 (Maps.int_keyed Try.underlying3) Try.underlying40 RV bm _ _ rfl hown.out hlen _ _ _ rfl rfl hkey (.held (.agg #[.int .i64 next, .int .i64 k, .slice A8 l8.length c8])) [] rfl ?_; intro w6 hown6 hturn6; have h6 := hdk.turn hturn6 (by rw [hd_push]; exact MpAt.push hdk.mp.asc hdk.mp.wf hkw hlast.out hown6) hsub.out; have hB6 := But.of_grown (g := g) hturn6.grown (.inr (.inl rfl)))
        go_ret2
        unfold PutSR
        rw [if_neg hno.out]
        refine ⟨⟨next, k, A8, c8, l8⟩, rfl, by show (_, _, _) = (_, _, _); rw [hkv.out], h6, hBx.out.trans hB6, fun x hx => ?_⟩
        rcases List.mem_append.1 hx with e | e
        · exact .inl e
        · have e : x = ⟨next, k, A8, c8, l8⟩ := by simpa using e
          subst e
          exact .inr ((hXx.out.kept (fun k hk hp => hturn6.grown.block k hk (fun e => by injection e; have := hz2.out; omega)) hturn6.grown.size).weaken fun k hk => ⟨by have := hk.1; have := hz2.out; omega, by have := hk.2; have := hturn6.grown.size; omega⟩)
end Go.Proofs.Ytakooljbkjnilaa
namespace Go.Proofs.Ytakooljbkjnilaa
open Go.ChangeShapes Go.WideShapes Go.ChangeAt Go.RowKit
set_option maxHeartbeats 1000000
set_option maxRecDepth 100000
attribute [local go_sem] kp_refl kp_alloc kp_setCell kp_drew kp_drewN row_new row_old rowAt_new rowAt_old

/-- A slice of objects that came in, below block B. -/
structure HdsIn (w : World) (B : Nat) (A : Option Addr) (l : List Hd) : Prop where
  cells : Rd w B A (l.flatMap Hd.cells)
  body : ∀ x ∈ l, Ats w B x.A x.l ∧ x.l.length ≤ x.cap ∧ x.cap ≤ maxLen ∧ x.l.length ≤ 4398046511104
theorem HdsIn.kp {w W : World} {B : Nat} {A : Option Addr} {l : List Hd} (h : HdsIn w B A l) (hb : Kp B w W) : HdsIn W B A l := ⟨h.cells.kp hb, fun x hx => ⟨(h.body x hx).1.kp hb, (h.body x hx).2⟩⟩
def prevO (l : List Hd) : Nat → Int
  | 0 => 0
  | j + 1 => (l[j]?.map Hd.h).getD 0
def badO (l : List Hd) (next : Int) (j : Nat) : Bool := match l[j]? with | some x => decide (x.h ≤ prevO l j) || decide (next ≤ x.h) | none => false
def restZ (most next : Int) (l : List Hd) : Int :=
  if most < 1 ∨ 16 < most ∨ next < 1 ∨ 1073741824 < next then 1
  else if (List.range l.length).any (badO l next) then 1
  else if most < (l.length : Int) then 7 else 0
def RestR (most next : Int) (l : List Hd) (w : World) (e : Ending) (w' : World) : Prop :=
  if restZ most next l = 0 then ∃ g bm, ∃ ks : List Hd, e = .returned (.tuple #[.pointer (some ⟨g, 0, none⟩), .int .i64 0]) ∧ StAt w' g bm most next ks ∧ ks.map Hd.ob = l.map Hd.ob ∧ (∀ x ∈ ks, HdOk (fun k => w.heap.size ≤ k ∧ k < w'.heap.size) w' x) ∧ w.heap.size ≤ g ∧ w.heap.size ≤ bm ∧ Below w.heap.size w w'
  else e = .returned (.tuple #[.pointer none, .int .i64 (restZ most next l)]) ∧ Below w.heap.size w w'
theorem prevO_succ {l : List Hd} {j : Nat} (h : j < l.length) : prevO l (j + 1) = l[j].h := by
  show (l[j]?.map Hd.h).getD 0 = _
  rw [List.getElem?_eq_getElem h]; rfl
theorem badO_at {l : List Hd} {next : Int} {j : Nat} (h : j < l.length) : badO l next j = (decide (l[j].h ≤ prevO l j) || decide (next ≤ l[j].h)) := by
  unfold badO; rw [List.getElem?_eq_getElem h]
theorem good_rise {l : List Hd} {next : Int} {j : Nat} (hj : j < l.length) (h : ∀ i, i ≤ j → badO l next i = false) : 0 < l[j].h ∧ l[j].h < next ∧ ∀ i (hi : i < j), l[i].h < l[j].h := by
  induction j with
  | zero =>
    have := h 0 (Nat.le_refl _)
    rw [badO_at hj, Bool.or_eq_false_iff, decide_eq_false_iff_not, decide_eq_false_iff_not] at this
    have e : prevO l 0 = 0 := rfl
    exact ⟨by omega, by omega, fun i hi => absurd hi (by omega)⟩
  | succ j ih =>
    have hj' : j < l.length := by omega
    obtain ⟨h1, h2, h3⟩ := ih hj' fun i hi => h i (by omega)
    have := h (j + 1) (Nat.le_refl _)
    rw [badO_at hj, prevO_succ hj', Bool.or_eq_false_iff, decide_eq_false_iff_not, decide_eq_false_iff_not] at this
    refine ⟨by omega, by omega, fun i hi => ?_⟩
    rcases Nat.lt_or_ge i j with hij | hij
    · have := h3 i hij; omega
    · have : i = j := by omega
      subst this; omega
set_option maxHeartbeats 4000000 in
theorem store_Restore (most next : Int) (A : Option Addr) (l : List Hd) (c : Nat) (w : World) (h : HdsIn w w.heap.size A l) (hll : l.length ≤ 9223372036854775807) :
    Calls Try.prog 8 #[.int .i64 most, .int .i64 next, .slice A l.length c] w (RestR most next l w) := by
  have hmm := @run_makeMap Try.prog
  have hZ : Hid (restZ most next l = if most < 1 ∨ 16 < most ∨ next < 1 ∨ 1073741824 < next then 1 else if (List.range l.length).any (badO l next) then 1 else if most < (l.length : Int) then 7 else 0) := rfl
  have hbad : most < 1 ∨ 16 < most ∨ next < 1 ∨ 1073741824 < next → ∀ e : Ending, e = .returned (.tuple #[.pointer none, .int .i64 1]) → RestR most next l w e w := by
    intro hb e he
    have hz : restZ most next l = 1 := by rw [hZ.out, if_pos hb]
    unfold RestR
    rw [if_neg (by omega), hz]
    exact ⟨he, Below.refl _ _⟩
  have hbad := Lib.hid hbad
  by_cases g1 : most < 1
  · go_enter Try.func8, Try.ntmps8
    go_wp2
    go_ret2
    exact hbad.out (.inl g1) _ rfl
  by_cases g2 : 16 < most
  · go_enter Try.func8, Try.ntmps8
    go_wp2
    go_ret2
    exact hbad.out (.inr (.inl g2)) _ rfl
  by_cases g3 : next < 1
  · go_enter Try.func8, Try.ntmps8
    go_wp2
    go_ret2
    exact hbad.out (.inr (.inr (.inl g3))) _ rfl
  by_cases g4 : 1073741824 < next
  · go_enter Try.func8, Try.ntmps8
    go_wp2
    go_ret2
    exact hbad.out (.inr (.inr (.inr g4))) _ rfl
  have hZ : Hid (restZ most next l = if (List.range l.length).any (badO l next) then 1 else if most < (l.length : Int) then 7 else 0) := by
    show _ = _
    rw [hZ.out, if_neg (by omega)]
  clear hbad
  go_enter Try.func8, Try.ntmps8
  go_wp2
  go_loopw [8, 30] (fun v x wr => ∃ j : Nat, x = .int .i64 j ∧ j ≤ l.length ∧ v = .int .i64 (prevO l j) ∧ (∀ i, i < j → badO l next i = false) ∧ Below w.heap.size w wr) (fun _ x _ => l.length - (Go.RowKit.intOf x).toNat)
  case atStart => exact ⟨0, rfl, Nat.zero_le _, rfl, fun i hi => absurd hi (by omega), Below.refl _ _⟩
  case round =>
    obtain ⟨j, rfl, hj, rfl, hok, hb⟩ := hrel
    by_cases hjl : j = l.length
    · subst hjl
      have hany : (List.range l.length).any (badO l next) = false := by
        rw [List.any_eq_false]
        intro i hi
        rw [hok i (List.mem_range.1 hi)]; simp
      have hZ : Hid (restZ most next l = if most < (l.length : Int) then 7 else 0) := by
        show _ = _
        rw [hZ.out, hany]; rfl
      by_cases hm : most < (l.length : Int)
      · have hZ : Hid (restZ most next l = 7) := by show _ = _; rw [hZ.out, if_pos hm]
        go_wp2
        go_ret2
        unfold RestR
        rw [hZ.out, if_neg (by decide)]
        exact ⟨rfl, hb⟩
      · have hZ : Hid (restZ most next l = 0) := by show _ = _; rw [hZ.out, if_neg hm]
        have hin := h.kp (kp_of_below hb)
        have hok := Lib.hid hok
        clear hany h
        have hlm : l.length ≤ 16 := by omega
        obtain ⟨wa, hwa⟩ : ∃ wa, wa = wr := ⟨_, rfl⟩
        subst hwa
        have hS0 : StAt ((wa.alloc (.map #[] 0)).alloc (.cells #[.int .i64 most, .int .i64 next, .map (some wa.heap.size)] 42)) (wa.heap.size + 1) wa.heap.size most next [] :=
          ⟨⟨_, blk_new _ _ (by simp)⟩, (mp_made wa).step (below_alloc' _ _), fun x hx => by simp at hx⟩
        have hb0 : Below wa.heap.size wa ((wa.alloc (.map #[] 0)).alloc (.cells #[.int .i64 most, .int .i64 next, .map (some wa.heap.size)] 42)) := ((Below.refl _ _).alloc (Nat.le_refl _) _).alloc (by simp) _
        have hS0 := Lib.hid hS0
        have hin := Lib.hid hin
        go_wp2
        go_loopw [58] (fun x wk => ∃ j : Nat, ∃ ks : List Hd, x = .int .i64 j ∧ j ≤ l.length ∧ StAt wk (wa.heap.size + 1) wa.heap.size most next ks ∧ Hid (ks.map Hd.ob = (l.take j).map Hd.ob) ∧ Hid (∀ x ∈ ks, HdOk (fun k => wa.heap.size + 2 ≤ k ∧ k < wk.heap.size) wk x) ∧ Below wa.heap.size wa wk) (fun x _ => l.length - (Go.RowKit.intOf x).toNat)
        case atStart => exact ⟨0, [], rfl, Nat.zero_le _, hS0.out, rfl, fun x hx => by simp at hx, hb0⟩
        case round =>
          obtain ⟨j, ks, rfl, hj, hS, hob, hfr, hbk⟩ := hrel
          have hzk := hbk.size
          by_cases hjl : j = l.length
          · subst hjl
            have hob2 : ks.map Hd.ob = l.map Hd.ob := by rw [hob.out, List.take_length]
            have hob2 := Lib.hid hob2
            have hb9 := Lib.hid (hb.trans (hbk.mono hb.size))
            have hS := Lib.hid hS
            go_wp2
            go_ret2
            unfold RestR
            rw [if_pos hZ.out]
            have := hb.size
            exact ⟨_, _, ks, rfl, hS.out, hob2.out, fun x hx => (hfr.out x hx).weaken fun k hk => ⟨by omega, hk.2⟩, by omega, by omega, hb9.out⟩
          · have hjl : j < l.length := by omega
            have hbe := Lib.hid (hb.trans (hbk.mono hb.size))
            have hcl := hin.out.kp (kp_of_below (hbk.mono hb.size))
            obtain ⟨ad, rfl, hal, q0, q1, q2⟩ := hd_at hcl.cells hjl
            obtain ⟨hxA, hx1, hx2, hx3⟩ := hcl.body l[j] (List.getElem_mem hjl)
            have hgr := Lib.hid (good_rise hjl fun i hi => hok.out i (by omega))
            have htk := Lib.hid (take_snocH l hjl)
            have hkl : ks.length = j := by have := congrArg List.length hob.out; simp at this; omega
            have hxob : l[j].ob = (l[j].h, l[j].o, l[j].l.map At.kv) := rfl
            have hxob := Lib.hid hxob
            have hlast : ∀ p ∈ hdM ks, p.1 < l[j].h := by
              intro p hp
              obtain ⟨q, hq, rfl⟩ := List.mem_map.1 hp
              obtain ⟨i, hi, rfl⟩ := List.getElem_of_mem hq
              have e := congrArg (fun t => t[i]?) hob.out
              have hi2 : i < j := by omega
              simp only [List.getElem?_map, List.getElem?_eq_getElem hi, List.getElem?_take_of_lt hi2, List.getElem?_eq_getElem (show i < l.length by omega), Option.map_some] at e
              injection e with e
              have e1 : ks[i].h = l[i].h := congrArg (·.1) e
              have := hgr.out.2.2 i hi2
              show ks[i].h < _
              omega
            have hlast := Lib.hid hlast
            generalize l[j] = x at *
            obtain ⟨xh, xo, xA, xc, xl⟩ := x
            simp only at q0 q1 q2 hxA hx1 hx2 hx3 hgr hxob hlast
            have hzw := hb.size
            have hgw := hS.lt
            have hbW := below_alloc' wr (.cells #[.int .i64 xh, .int .i64 xo, .slice xA xl.length xc] 45)
            have b3 := B3.new wr (.int .i64 xh) (.int .i64 xo) (.slice xA xl.length xc) 45
            have hAW := (hxA.more (show w.heap.size ≤ wr.heap.size by omega)).step hbW
            have hz1 : wr.heap.size + 1 = (wr.alloc (.cells #[.int .i64 xh, .int .i64 xo, .slice xA xl.length xc] 45)).heap.size := by simp
            go_upto_region 17 with (fail)
            generalize wr.alloc (.cells #[.int .i64 xh, .int .i64 xo, .slice xA xl.length xc] 45) = W at *
            obtain ⟨r0, r1, r2, rf⟩ := b3.c
            have ho := Lib.hid (store_ownA xA xl xc W hAW hx3)
            go_wp2_with fail
            refine ho.out.mono ?_
            rintro e w4 ⟨A', c', l', rfl, hO⟩
            have hz4 := hO.bel.size
            have s3 := b3.step hO.bel
            obtain ⟨p0, p1, p2, pf⟩ := s3.c
            have hats : AtsP (fun k => W.heap.size ≤ k ∧ k < w4.heap.size) (w4.setCell ⟨wr.heap.size, 2, none⟩ (.slice A' l'.length c')) A' l' := hO.ats.kept (fun k _ hk => Below.heap_setCell _ _ _ _ (by have := hk.1; show k ≠ wr.heap.size; omega)) (by simp)
            have hbV : Below wr.heap.size wr (w4.setCell ⟨wr.heap.size, 2, none⟩ (.slice A' l'.length c')) := (hbW.trans (hO.bel.mono (by omega))).setCell (p := ⟨wr.heap.size, 2, none⟩) (Nat.le_refl _) _
            have h5 := hS.step hbV
            have s5 := s3.set2 (.slice A' l'.length c')
            have hzV : w4.heap.size = (w4.setCell ⟨wr.heap.size, 2, none⟩ (.slice A' l'.length c')).heap.size := by simp
            go_upto_region 18 with (fail)
            generalize w4.setCell ⟨wr.heap.size, 2, none⟩ (.slice A' l'.length c') = V5 at *
            have hzB := hbV.size
            have hD := Lib.hid (fun V (hV : Below V5.heap.size V5 V) => h5.step hV)
            have hE := Lib.hid (fun V (hV : Below V5.heap.size V5 V) => s5.step hV)
            have hx5 : HdOk (fun k => wa.heap.size + 2 ≤ k ∧ k < V5.heap.size) V5 ⟨xh, xo, A', c', l'⟩ := ⟨hats.weaken fun k hk => ⟨by omega, by omega⟩, hO.len, hO.cap, by have e1 := congrArg List.length hO.kv; rw [List.length_map, List.length_map] at e1; show l'.length ≤ _; rw [e1]; exact hx3⟩
            have hX := Lib.hid (fun V (hV : Below V5.heap.size V5 V) => hx5.kept (fun k hk _ => hV.block k hk) hV.size)
            have hkv := Lib.hid hO.kv
            have hbX := Lib.hid (fun V (hV : Below V5.heap.size V5 V) => (hbk.trans (hbV.mono (by omega))).trans (hV.mono (by omega : wa.heap.size ≤ V5.heap.size)))
            have hfX := Lib.hid (fun V (hV : Below V5.heap.size V5 V) x (hx : x ∈ ks) => ((hfr.out x hx).kept (fun k hk _ => ((hV.block k (by omega)).trans (hbV.block k hk))) (by have := hV.size; omega)))
            clear h5 s5 s3 hbW hAW b3 p0 p1 p2 pf r0 r1 r2 rf hO hats hx5 hbV ho hxA q0 q1 q2 hcl
            generalize ha0 : Act.mk _ _ = a0
            have e11 : a0.tmps[11]?.getD undef = .pointer (some ⟨wa.heap.size + 1, 0, none⟩) := by rw [← ha0]; rfl
            have e13 : a0.tmps[13]?.getD undef = .pointer (some ⟨wr.heap.size, 0, none⟩) := by rw [← ha0]; rfl
            have hz0 : a0.tmps.size = 75 := by rw [← ha0]; rfl
            have hha0 := Lib.hid ha0
            clear ha0
            refine wp_region_tailL (fun jx_ => match jx_ with | 0 => SRel.is (.pointer (some ⟨wa.heap.size + 1, 0, none⟩)) | 1 => SRel.is (.pointer (some ⟨wa.heap.size + 1, 0, none⟩)) | 2 => SRel.is (.pointer (some ⟨wa.heap.size + 1, 2, none⟩)) | 3 => SRel.is (.map (some wa.heap.size)) | 4 => SRel.is (.pointer (some ⟨wr.heap.size, 0, none⟩)) | 5 => SRel.is (.int .i64 xh) | 6 => SRel.is (.agg #[.int .i64 xh, .int .i64 xo, .slice A' l'.length c']) | 7 => SRel.any | _ => SRel.any) 7 (by kernel_rfl) (by kernel_rfl) (by kernel_rfl) (slotsOk_of hz0 (by kernel_rfl)) (by kernel_rfl) (of_decide_eq_true (by kernel_rfl)) ⟨?_, ?_, ?_, ?_, ?_, ?_, ?_, trivial⟩ ?_
            · refine calmL_step rfl fun a ω κ hb hu hc hK => ?_
              have h11 : a.tmps[11]?.getD undef = .pointer (some ⟨wa.heap.size + 1, 0, none⟩) := (hu 11 rfl).trans e11
              have hk := Lib.hid (fun w1 (h : Below ω.heap.size ω w1) => hK (.pointer (some ⟨wa.heap.size + 1, 0, none⟩)) w1 rfl h)
              clear hK hu hc
              go_simp
              exact hk.out _ (Below.refl _ _)
            · refine calmL_step rfl fun a ω κ hb hu hc hK => ?_
              have h66 : a.tmps[66]?.getD undef = .pointer (some ⟨wa.heap.size + 1, 0, none⟩) := hc 0 66 rfl rfl
              have hk := Lib.hid (fun w1 (h : Below ω.heap.size ω w1) => hK (.pointer (some ⟨wa.heap.size + 1, 0, none⟩)) w1 rfl h)
              clear hK hu hc
              go_simp
              exact hk.out _ (Below.refl _ _)
            · refine calmL_step rfl fun a ω κ hb hu hc hK => ?_
              have h67 : a.tmps[67]?.getD undef = .pointer (some ⟨wa.heap.size + 1, 0, none⟩) := hc 1 67 rfl rfl
              have hk := Lib.hid (fun w1 (h : Below ω.heap.size ω w1) => hK (.pointer (some ⟨wa.heap.size + 1, 2, none⟩)) w1 rfl h)
              clear hK hu hc
              go_simp
              exact hk.out _ (Below.refl _ _)
            · refine calmL_step rfl fun a ω κ hb hu hc hK => ?_
              have h68 : a.tmps[68]?.getD undef = .pointer (some ⟨wa.heap.size + 1, 2, none⟩) := hc 2 68 rfl rfl
              have hk := Lib.hid (fun w1 (h : Below ω.heap.size ω w1) => hK (.map (some wa.heap.size)) w1 rfl h)
              clear hK hu hc
              obtain ⟨e0, e1, e2, ef⟩ := (hD.out ω hb).c
              go_simp
              exact hk.out _ (Below.refl _ _)
            · refine calmL_step rfl fun a ω κ hb hu hc hK => ?_
              have h13 : a.tmps[13]?.getD undef = .pointer (some ⟨wr.heap.size, 0, none⟩) := (hu 13 rfl).trans e13
              have hk := Lib.hid (fun w1 (h : Below ω.heap.size ω w1) => hK (.pointer (some ⟨wr.heap.size, 0, none⟩)) w1 rfl h)
              clear hK hu hc
              go_simp
              exact hk.out _ (Below.refl _ _)
            · refine calmL_step rfl fun a ω κ hb hu hc hK => ?_
              have h70 : a.tmps[70]?.getD undef = .pointer (some ⟨wr.heap.size, 0, none⟩) := hc 4 70 rfl rfl
              have hk := Lib.hid (fun w1 (h : Below ω.heap.size ω w1) => hK (.int .i64 xh) w1 rfl h)
              clear hK hu hc
              obtain ⟨e0, e1, e2, ef⟩ := (hE.out ω hb).c
              go_simp
              exact hk.out _ (Below.refl _ _)
            · refine calmL_step rfl fun a ω κ hb hu hc hK => ?_
              have h13 : a.tmps[13]?.getD undef = .pointer (some ⟨wr.heap.size, 0, none⟩) := (hu 13 rfl).trans e13
              have hk := Lib.hid (fun w1 (h : Below ω.heap.size ω w1) => hK (.agg #[.int .i64 xh, .int .i64 xo, .slice A' l'.length c']) w1 rfl h)
              clear hK hu hc
              obtain ⟨e0, e1, e2, ef⟩ := (hE.out ω hb).c
              go_simp
              exact hk.out _ (Below.refl _ _)
            · intro aa ω hb hu hsz hdf hc
              have h66 : aa.tmps[66]?.getD undef = .pointer (some ⟨wa.heap.size + 1, 0, none⟩) := hc 0 66 (by decide) rfl
              have h67 : aa.tmps[67]?.getD undef = .pointer (some ⟨wa.heap.size + 1, 0, none⟩) := hc 1 67 (by decide) rfl
              have h68 : aa.tmps[68]?.getD undef = .pointer (some ⟨wa.heap.size + 1, 2, none⟩) := hc 2 68 (by decide) rfl
              have h69 : aa.tmps[69]?.getD undef = .map (some wa.heap.size) := hc 3 69 (by decide) rfl
              have h70 : aa.tmps[70]?.getD undef = .pointer (some ⟨wr.heap.size, 0, none⟩) := hc 4 70 (by decide) rfl
              have h71 : aa.tmps[71]?.getD undef = .int .i64 xh := hc 5 71 (by decide) rfl
              have h72 : aa.tmps[72]?.getD undef = .agg #[.int .i64 xh, .int .i64 xo, .slice A' l'.length c'] := hc 6 72 (by decide) rfl
              have ha0 := hha0.out
              subst ha0
              have he := act_patchL (n := 75) 7 [false, false, false, false, false, false, false, false, false, false, false, false, false, false, false, false, false, false, false, false, false, false, false, false, false, false, false, false, false, false, false, false, false, false, false, false, false, false, false, false, false, false, false, false, false, false, false, false, false, false, false, false, false, false, false, false, false, false, false, false, false, false, false, false, false, false, true, true, true, true, true, true, true, false, false] rfl (by kernel_rfl) hu hsz hdf
              simp only [patch, cond_true, cond_false, Nat.reduceAdd] at he
              clear hu hsz hdf hc hha0 e11 e13 hz0
              rw [he]
              clear he
              generalize aa.tmps[66]?.getD undef = x66 at *
              generalize aa.tmps[67]?.getD undef = x67 at *
              generalize aa.tmps[68]?.getD undef = x68 at *
              generalize aa.tmps[69]?.getD undef = x69 at *
              generalize aa.tmps[70]?.getD undef = x70 at *
              generalize aa.tmps[71]?.getD undef = x71 at *
              generalize aa.tmps[72]?.getD undef = x72 at *
              subst h66 h67 h68 h69 h70 h71 h72
              have hdk := hD.out ω hb
              have hXx := Lib.hid (hX.out ω hb)
              have hfx := Lib.hid (hfX.out ω hb)
              have hbx := Lib.hid (hbX.out ω hb)
              have hzx := Lib.hid hb.size
              have hkw : (Lit.int .i64 xh).wf = true := by have := hgr.out; simp only [Lit.wf, Bool.and_eq_true, decide_eq_true_eq]; show (-9223372036854775808 : Int) ≤ _ ∧ _ ≤ (9223372036854775807 : Int); omega
              have hkey := Maps.keyOf_int_mk (P := Try.prog) Try.underlying3 hkw
              have hown := Lib.hid hdk.mp.own
              have hlen : (hdM ks).length < maxLen := by unfold hdM maxLen; rw [List.length_map]; omega
              have hsub := Lib.hid (fun z (hz : z ∈ ks ++ [⟨xh, xo, A', c', l'⟩]) => (show HdOk (fun k => k ≠ wa.heap.size + 1 ∧ k ≠ wa.heap.size) ω z from by
                rcases List.mem_append.1 hz with e | e
                · exact hdk.at_ z e
                · have e : z = ⟨xh, xo, A', c', l'⟩ := by simpa using e
                  subst e; exact hXx.out.weaken fun k hk => ⟨by omega, by omega⟩))
              dsimp only [List.drop]
              go_wp2_with (at_mapUpdate; refine wpList_mapUpdate_in _ rfl _ _ _ 40 rfl 3 45 (Maps.int_keyed Try.underlying3) Try.underlying40 RV wa.heap.size _ _ rfl hown.out hlen _ _ _ rfl rfl hkey (.held (.agg #[.int .i64 xh, .int .i64 xo, .slice A' l'.length c'])) [] rfl ?_; intro w6 hown6 hturn6; have h6 := hdk.turn hturn6 (by rw [hd_push]; exact MpAt.push hdk.mp.asc hdk.mp.wf hkw hlast.out hown6) hsub.out)
              go_roundw
              case rel =>
                have hg6 := hturn6.grown
                refine ⟨j + 1, ks ++ [⟨xh, xo, A', c', l'⟩], by go_num, by omega, h6, ?_, ?_, ?_⟩
                · show _ = _
                  rw [htk.out, List.map_append, List.map_append, hob.out, List.map_cons, List.map_cons, hxob.out]
                  show _ ++ [(xh, xo, l'.map At.kv)] = _
                  rw [hkv.out]; rfl
                · intro z hz
                  have hq : HdOk (fun k => wa.heap.size + 2 ≤ k ∧ k < ω.heap.size) ω z := by
                    rcases List.mem_append.1 hz with e | e
                    · exact (hfx.out z e).weaken fun k hk => ⟨hk.1, by have := hk.2; have := hzx.out; omega⟩
                    · have e : z = ⟨xh, xo, A', c', l'⟩ := by simpa using e
                      subst e; exact hXx.out.weaken fun k hk => ⟨hk.1, by have := hk.2; have := hzx.out; omega⟩
                  exact (hq.kept (fun k hk hp => hg6.block k hk (fun e => by injection e; omega)) hg6.size).weaken fun k hk => ⟨hk.1, by have := hk.2; have := hg6.size; omega⟩
                · exact hbx.out.grown hg6 (Nat.le_trans (by omega : wa.heap.size ≤ V5.heap.size) hzx.out) (fun k hk => by injection hk; omega)
              case measure => simp [Go.RowKit.intOf]; omega
    · have hjl : j < l.length := by omega
      have hcl := h.cells.kp (kp_of_below hb)
      obtain ⟨ad, rfl, hal, q0, q1, q2⟩ := hd_at hcl hjl
      have hps := prevO_succ hjl
      have hba := badO_at (next := next) hjl
      have hany : badO l next j = true → restZ most next l = 1 := fun hx => by
        rw [hZ.out, if_pos (List.any_eq_true.2 ⟨j, List.mem_range.2 hjl, hx⟩)]
      have hany := Lib.hid hany
      have hok2 : badO l next j = false → ∀ i, i < j + 1 → badO l next i = false := fun hx i hi => by
        rcases Nat.lt_or_ge i j with e | e
        · exact hok i e
        · have : i = j := by omega
          subst this; exact hx
      have hok2 := Lib.hid hok2
      have hps := Lib.hid hps
      have hbW := Lib.hid (fun V te => (hb.trans ((below_alloc' wr (.cells #[.int .i64 l[j].h, .int .i64 l[j].o, V] te)).mono hb.size)))
      generalize l[j].A = xA at *
      generalize l[j].l.length = xn at *
      generalize l[j].cap = xc at *
      generalize l[j].o = xo at *
      generalize l[j].h = xh at *
      generalize prevO l j = pv at *
      clear hok h hcl
      by_cases h1 : xh ≤ pv
      · have hz1 := hany.out (by rw [hba]; simp [h1])
        have hz1 := Lib.hid hz1
        clear hba
        go_wp2
        go_ret2
        unfold RestR
        rw [hz1.out, if_neg (by decide)]
        exact ⟨rfl, hbW.out _ _⟩
      · by_cases h2 : next ≤ xh
        · have hz1 := hany.out (by rw [hba]; simp [h2])
          have hz1 := Lib.hid hz1
          clear hba
          go_wp2
          go_ret2
          unfold RestR
          rw [hz1.out, if_neg (by decide)]
          exact ⟨rfl, hbW.out _ _⟩
        · have hok3 := Lib.hid (hok2.out (by rw [hba]; simp; omega))
          clear hba
          go_wp2
          go_roundw
          case rel => exact ⟨j + 1, by go_num, by omega, by rw [hps.out], hok3.out, hbW.out _ _⟩
          case measure => simp [Go.RowKit.intOf]; omega
end Go.Proofs.Ytakooljbkjnilaa
namespace Go.Proofs.Ytakooljbkjnilaa
open Go.ChangeShapes Go.WideShapes Go.ChangeAt Go.RowKit
set_option maxHeartbeats 1000000
set_option maxRecDepth 100000
attribute [local go_sem] kp_refl kp_alloc kp_setCell kp_drew kp_drewN row_new row_old rowAt_new rowAt_old

theorem below_dNS {B : Nat} {a w : World} (h : Below B a w) (n : Nat) : Below B a (w.drewN n) := h.trans ⟨rfl, rfl, rfl, Nat.le_refl _, fun _ _ => rfl⟩
theorem b3_dN {w : World} {b : Nat} {v0 v1 v2 : Value} (h : B3 w b v0 v1 v2) (n : Nat) : B3 (w.drewN n) b v0 v1 v2 := h
set_option maxHeartbeats 4000000 in
theorem ref_HeldFault (most next : Int) (A : Option Addr) (l : List Hd) (c : Nat) (w : World) (h : HdsIn w w.heap.size A l) (hll : l.length ≤ 9223372036854775807) :
    Calls Try.prog 9 #[.int .i64 most, .int .i64 next, .slice A l.length c] w fun e w' => e = .returned (.int .i64 (restZ most next l)) ∧ Below w.heap.size w w' := by
  have hZ : Hid (restZ most next l = if most < 1 ∨ 16 < most ∨ next < 1 ∨ 1073741824 < next then 1 else if (List.range l.length).any (badO l next) then 1 else if most < (l.length : Int) then 7 else 0) := rfl
  have hbad : Hid (most < 1 ∨ 16 < most ∨ next < 1 ∨ 1073741824 < next → restZ most next l = 1) := by
    show _ → _
    intro hb
    rw [hZ.out, if_pos hb]
  by_cases g1 : most < 1
  · go_enter Try.func9, Try.ntmps9
    go_wp2
    go_ret
    exact ⟨by rw [hbad.out (.inl g1)]; rfl, Below.refl _ _⟩
  by_cases g2 : 16 < most
  · go_enter Try.func9, Try.ntmps9
    go_wp2
    go_ret
    exact ⟨by rw [hbad.out (.inr (.inl g2))]; rfl, Below.refl _ _⟩
  by_cases g3 : next < 1
  · go_enter Try.func9, Try.ntmps9
    go_wp2
    go_ret
    exact ⟨by rw [hbad.out (.inr (.inr (.inl g3)))]; rfl, Below.refl _ _⟩
  by_cases g4 : 1073741824 < next
  · go_enter Try.func9, Try.ntmps9
    go_wp2
    go_ret
    exact ⟨by rw [hbad.out (.inr (.inr (.inr g4)))]; rfl, Below.refl _ _⟩
  have hZ : Hid (restZ most next l = if (List.range l.length).any (badO l next) then 1 else if most < (l.length : Int) then 7 else 0) := by
    show _ = _
    rw [hZ.out, if_neg (by omega)]
  clear hbad
  go_enter Try.func9, Try.ntmps9
  go_wp2
  go_loopw [25] (fun x wr => ∃ j : Nat, x = .int .i64 j ∧ j ≤ l.length ∧ (∀ i, i < j → badO l next i = false) ∧ Below w.heap.size w wr) (fun x _ => l.length - (Go.RowKit.intOf x).toNat)
  case atStart => exact ⟨0, rfl, Nat.zero_le _, fun i hi => absurd hi (by omega), Below.refl _ _⟩
  case round =>
    obtain ⟨j, rfl, hj, hok, hb⟩ := hrel
    by_cases hjl : j = l.length
    · subst hjl
      have hany : (List.range l.length).any (badO l next) = false := by
        rw [List.any_eq_false]
        intro i hi
        rw [hok i (List.mem_range.1 hi)]; simp
      have hZ : Hid (restZ most next l = if most < (l.length : Int) then 7 else 0) := by
        show _ = _
        rw [hZ.out, hany]; rfl
      by_cases hm : most < (l.length : Int)
      · have hZ : Hid (restZ most next l = 7) := by show _ = _; rw [hZ.out, if_pos hm]
        go_wp2
        go_ret
        exact ⟨by rw [hZ.out]; rfl, hb⟩
      · have hZ : Hid (restZ most next l = 0) := by show _ = _; rw [hZ.out, if_neg hm]
        clear hany
        go_wp2
        go_ret
        exact ⟨by rw [hZ.out]; rfl, hb⟩
    · have hjl : j < l.length := by omega
      have hcl := h.cells.kp (kp_of_below hb)
      obtain ⟨ad, rfl, hal, q0, q1, q2⟩ := hd_at hcl hjl
      have hba := badO_at (next := next) hjl
      have hany : badO l next j = true → restZ most next l = 1 := fun hx => by
        rw [hZ.out, if_pos (List.any_eq_true.2 ⟨j, List.mem_range.2 hjl, hx⟩)]
      have hany := Lib.hid hany
      have hok2 : badO l next j = false → ∀ i, i < j + 1 → badO l next i = false := fun hx i hi => by
        rcases Nat.lt_or_ge i j with e | e
        · exact hok i e
        · have : i = j := by omega
          subst this; exact hx
      have hok2 := Lib.hid hok2
      have hpp : ∀ k, j = k + 1 → (∃ v, prevO l j = v ∧ 0 < v ∧ wr.cell? (ad.add (k * 3)) = some (.int .i64 v)) := by
        intro k hk
        subst hk
        have hk2 : k < l.length := by omega
        refine ⟨l[k].h, prevO_succ hk2, (good_rise hk2 fun i hi => hok i (by omega)).1, ?_⟩
        obtain ⟨ad', e, -, r0, -, -⟩ := hd_at hcl hk2
        injection e with e
        subst e
        exact r0
      have hbW := Lib.hid (fun V te n => (show Below w.heap.size w ((wr.alloc (.cells #[.int .i64 l[j].h, .int .i64 l[j].o, V] te)).drewN n) from hb.trans ((below_dNS (below_alloc' wr (.cells #[.int .i64 l[j].h, .int .i64 l[j].o, V] te)) n).mono hb.size)))
      generalize l[j].A = xA at *
      generalize l[j].l.length = xn at *
      generalize l[j].cap = xc at *
      generalize l[j].o = xo at *
      generalize l[j].h = xh at *
      clear hok h hcl
      by_cases h1 : xh < 1
      · have d1 : decide (xh < 1) = true := by simpa using h1
        have hbd : badO l next j = true := by
          rw [hba]
          rcases Nat.eq_zero_or_pos j with e | e
          · subst e; have : prevO l 0 = 0 := rfl; rw [this]; simp; omega
          · obtain ⟨v, e1, e2, -⟩ := hpp (j - 1) (by omega)
            rw [e1]; simp; omega
        have hz1 := Lib.hid (hany.out hbd)
        clear hbd
        clear hba hany hok2 hpp
        go_wp2
        go_quiet (fail)
        go_wp2
        go_ret
        exact ⟨by rw [hz1.out]; rfl, hbW.out _ _ _⟩
      have d1 : decide (xh < 1) = false := by simpa using h1
      by_cases h2 : next ≤ xh
      · have d2 : decide (xh ≥ next) = true := by simpa using h2
        have d2b : decide (next ≤ xh) = true := by simpa using h2
        have hz1 := Lib.hid (hany.out (by rw [hba]; simp [h2]))
        clear hba hany hok2 hpp
        go_wp2
        go_quiet (fail)
        go_wp2
        go_ret
        exact ⟨by rw [hz1.out]; rfl, hbW.out _ _ _⟩
      have d2 : decide (xh ≥ next) = false := by simpa using h2
      have d2b : decide (next ≤ xh) = false := by simpa using h2
      rcases Nat.eq_zero_or_pos j with e | e
      · have hok3 := Lib.hid (hok2.out (by rw [hba, e]; have : prevO l 0 = 0 := rfl; rw [this]; simp; omega))
        have d3 : decide ((j : Int) > 0) = false := by simp; omega
        have d3b : decide (0 < j) = false := by simp; omega
        have e := Lib.hid e
        clear hba hany hok2 hpp
        rename_i e0
        clear e0
        go_wp2
        go_quiet (fail)
        go_wp2
        go_roundw
        case rel => exact ⟨j + 1, by go_num, by omega, hok3.out, hbW.out _ _ _⟩
        case measure => simp [Go.RowKit.intOf]; omega
      · obtain ⟨k, rfl⟩ : ∃ k, j = k + 1 := ⟨j - 1, by omega⟩
        obtain ⟨v, e1, e2, e3⟩ := hpp k rfl
        rw [e1] at hba
        have e4 : (wr.alloc (.cells #[.int .i64 xh, .int .i64 xo, .slice xA xn xc] 45)).cell? (ad.add (k * 3)) = some (.int .i64 v) := ((below_alloc' wr _).cell (cell_ltS e3)).trans e3
        have hkl : k < l.length := by omega
        have hkl2 : (k : Int) < (l.length : Int) := by omega
        have hkl3 : (0 : Int) ≤ (k : Int) := by omega
        have hwk : IntKind.i64.wrap (k : Int) = (k : Int) := by rw [IntKind.wrap_i64]; omega
        have d3 : decide (((k : Int) + 1) > 0) = true := by simp
        have d3b : decide (0 < ((k : Int) + 1)) = true := by simp
        by_cases h3 : xh ≤ v
        · have d4 : decide (xh ≤ v) = true := by simpa using h3
          have hz1 := Lib.hid (hany.out (by rw [hba]; simp [h3]))
          clear hba hany hok2 hpp
          go_wp2
          go_quiet (fail)
          go_wp2
          go_ret
          exact ⟨by rw [hz1.out]; rfl, hbW.out _ _ _⟩
        · have d4 : decide (xh ≤ v) = false := by simpa using h3
          have hok3 := Lib.hid (hok2.out (by rw [hba]; simp; omega))
          clear hba hany hok2 hpp
          go_wp2
          go_quiet (fail)
          go_wp2
          go_roundw
          case rel => exact ⟨k + 1 + 1, by go_num, by omega, hok3.out, hbW.out _ _ _⟩
          case measure => simp [Go.RowKit.intOf]; omega
end Go.Proofs.Ytakooljbkjnilaa
namespace Go.Proofs.Ytakooljbkjnilaa
open Go Go.RowKit
section
variable {P : Program} {ops : Array Oper} {Q : Exit → Act → World → Prop}
theorem calm_step_skip {R : Nat → SRel} {a0 : Act} {w0 : World} {i g : Nat} {b : Bool} {d : Tmp} {o : Oper} (hg : o.guard = some (g, b)) (hd : dstAt ops g = some d)
    (hv : ∀ (a : Act) (w : World), Came ops R o a w → a.tmps[d]?.getD undef = .bool (!b)) (hR : ∀ w, (R i).p undef w) : StepOk P ops Q R a0 w0 i o := by
  intro a w K hb hu hc hK
  have hy : yielded ops a.tmps g = some (!b) := by
    have h1 := hv a w hc
    unfold dstAt at hd
    unfold yielded
    rw [hd, Option.bind_some]
    cases h2 : a.tmps[d]? with
    | none => rw [h2] at h1; cases h1
    | some v => rw [h2] at h1; have : v = .bool (!b) := h1; rw [this]
  rw [if_neg (by simp [Region.wanted, hg, hy])]
  exact hK undef w (hR w) (Below.refl _ _)
end
end Go.Proofs.Ytakooljbkjnilaa
namespace Go.Proofs.Ytakooljbkjnilaa
open Go.ChangeShapes Go.WideShapes Go.ChangeAt Go.RowKit
set_option maxHeartbeats 1000000
set_option maxRecDepth 100000
attribute [local go_sem] kp_refl kp_alloc kp_setCell kp_drew kp_drewN row_new row_old rowAt_new rowAt_old

def sameB (la lb : List Hd) : Bool := decide (la.map Hd.ob = lb.map Hd.ob)
theorem sameB_len {la lb : List Hd} (h : ¬ la.length = lb.length) : sameB la lb = false := by
  simp only [sameB, decide_eq_false_iff_not]
  intro e
  have := congrArg List.length e
  simp at this
  exact h this
theorem sameB_no {la lb : List Hd} {j : Nat} (h1 : j < la.length) (h2 : j < lb.length) (h : la[j].ob ≠ lb[j].ob) : sameB la lb = false := by
  simp only [sameB, decide_eq_false_iff_not]
  intro e
  have := congrArg (fun t => t[j]?) e
  simp only [List.getElem?_map, List.getElem?_eq_getElem h1, List.getElem?_eq_getElem h2, Option.map_some] at this
  injection this with this
  exact h this
theorem take_eqO {la lb : List Hd} {j : Nat} (h1 : j < la.length) (h2 : j < lb.length) (h : la[j].ob = lb[j].ob) (ht : (la.map Hd.ob).take j = (lb.map Hd.ob).take j) : (la.map Hd.ob).take (j + 1) = (lb.map Hd.ob).take (j + 1) := by
  rw [List.take_add_one, List.take_add_one, ht, List.getElem?_map, List.getElem?_map, List.getElem?_eq_getElem h1, List.getElem?_eq_getElem h2]
  simp [h]
set_option maxHeartbeats 4000000 in
theorem ref_SameHeld (A1 A2 : Option Addr) (la lb : List Hd) (c1 c2 : Nat) (w : World) (h1 : HdsIn w w.heap.size A1 la) (h2 : HdsIn w w.heap.size A2 lb) (hl : la.length ≤ 9223372036854775807) :
    Calls Try.prog 11 #[.slice A1 la.length c1, .slice A2 lb.length c2] w fun e w' => e = .returned (.bool (sameB la lb)) ∧ Below w.heap.size w w' := by
  by_cases hlen : la.length = lb.length
  · have hlb : ((la.length : Int) != (lb.length : Int)) = false := by simp [hlen]
    have hlH := Lib.hid hlen
    clear hlen
    go_enter Try.func11, Try.ntmps11
    go_wp2
    go_loopw [13] (fun x wr => ∃ j : Nat, x = .int .i64 j ∧ j ≤ la.length ∧ Hid ((la.map Hd.ob).take j = (lb.map Hd.ob).take j) ∧ Below w.heap.size w wr) (fun x _ => la.length - (Go.RowKit.intOf x).toNat)
    case atStart => exact ⟨0, rfl, Nat.zero_le _, rfl, Below.refl _ _⟩
    case round =>
      obtain ⟨j, rfl, hj, ht, hb⟩ := hrel
      by_cases hjl : j = la.length
      · have hz : Hid (sameB la lb = true) := by
          show _ = _
          simp only [sameB, decide_eq_true_eq]
          have ht1 := ht.out
          have hl1 := hlH.out
          rwa [List.take_of_length_le (by simp; omega), List.take_of_length_le (by simp; omega)] at ht1
        subst hjl
        go_wp2
        go_ret
        exact ⟨by rw [hz.out]; rfl, hb⟩
      · have hja : j < la.length := by omega
        have hjb : j < lb.length := by have := hlH.out; omega
        have g1 := h1.kp (kp_of_below hb)
        have g2 := h2.kp (kp_of_below hb)
        obtain ⟨ad, rfl, hal, p0, p1, p2⟩ := hd_at g1.cells hja
        obtain ⟨bd, rfl, hbl, q0, q1, q2⟩ := hd_at g2.cells hjb
        obtain ⟨x1, x2, x3, x4⟩ := g1.body la[j] (List.getElem_mem hja)
        obtain ⟨y1, y2, y3, y4⟩ := g2.body lb[j] (List.getElem_mem hjb)
        have hzb := hb.size
        have hno := Lib.hid (sameB_no hja hjb)
        have hyes := Lib.hid (fun h => take_eqO hja hjb h ht.out)
        have eo1 : la[j].ob = (la[j].h, la[j].o, la[j].l.map At.kv) := rfl
        have eo2 : lb[j].ob = (lb[j].h, lb[j].o, lb[j].l.map At.kv) := rfl
        rw [eo1, eo2] at hno hyes
        clear eo1 eo2
        generalize la[j] = x at *
        generalize lb[j] = y at *
        obtain ⟨xh, xo, xA, xc, xl⟩ := x
        obtain ⟨yh, yo, yA, yc, yl⟩ := y
        simp only at p0 p1 p2 q0 q1 q2 x1 x2 x3 x4 y1 y2 y3 y4 hno hyes
        have hC := Lib.hid (fun V (hV : Below wr.heap.size wr V) => And.intro ((hV.cell (cell_ltS p0)).trans p0) (And.intro ((hV.cell (cell_ltS p1)).trans p1) (And.intro ((hV.cell (cell_ltS p2)).trans p2) (And.intro ((hV.cell (cell_ltS q0)).trans q0) (And.intro ((hV.cell (cell_ltS q1)).trans q1) ((hV.cell (cell_ltS q2)).trans q2))))))
        have hS := Lib.hid (fun V (hV : Below wr.heap.size wr V) => ref_SameAttrs xA yA xl yl xc yc V ((x1.more hzb).step hV) ((y1.more hzb).step hV) (by omega))
        have hB := Lib.hid (fun V (hV : Below wr.heap.size wr V) => (hb.trans (hV.mono hzb)))
        clear p0 p1 p2 q0 q1 q2 x1 y1 g1 g2 h1 h2
        have i1 : (j : Int) < (la.length : Int) := by omega
        have i2 : (j : Int) < (lb.length : Int) := by have := hjb; omega
        have i3 : (0 : Int) ≤ (j : Int) := by omega
        have i4 : j % la.length = j := Nat.mod_eq_of_lt hja
        go_upto_region 6 with (fail)
        by_cases e1 : xh = yh
        · subst e1
          by_cases e2 : xo = yo
          · subst e2
            have d1 : (xh != xh) = false := by simp
            have d2 : (xo != xo) = false := by simp
            cases hs : sameKV xl yl
            · have hz : Hid (sameB la lb = false) := hno.out (fun e => by injection e with _ e; injection e with _ e; simp [sameKV, e] at hs)
              have hs := Lib.hid hs
              generalize ha0 : Act.mk _ _ = a0
              have e0 : a0.tmps[0]?.getD undef = .slice (some ad) la.length c1 := by rw [← ha0]; rfl
              have e1 : a0.tmps[1]?.getD undef = .slice (some bd) lb.length c2 := by rw [← ha0]; rfl
              have e5 : a0.tmps[5]?.getD undef = .int .i64 (j : Int) := by rw [← ha0]; rfl
              have hz0 : a0.tmps.size = 55 := by rw [← ha0]; rfl
              have hha0 := Lib.hid ha0
              clear ha0
              refine wp_region_calm (fun jx_ => match jx_ with | 0 => SRel.is (.slice (some ad) la.length c1) | 1 => SRel.is (.int .i64 (j : Int)) | 2 => SRel.is (.pointer (some (ad.add (j * 3)))) | 3 => SRel.is (.pointer (some (ad.add (j * 3)))) | 4 => SRel.is (.int .i64 xh) | 5 => SRel.is (.slice (some bd) lb.length c2) | 6 => SRel.is (.int .i64 (j : Int)) | 7 => SRel.is (.pointer (some (bd.add (j * 3)))) | 8 => SRel.is (.pointer (some (bd.add (j * 3)))) | 9 => SRel.is (.int .i64 xh) | 10 => SRel.is (.bool false) | 11 => SRel.is (.bool false) | 12 => SRel.is (.slice (some ad) la.length c1) | 13 => SRel.is (.int .i64 (j : Int)) | 14 => SRel.is (.pointer (some (ad.add (j * 3)))) | 15 => SRel.is (.pointer (some ⟨(ad.add (j * 3)).block, (ad.add (j * 3)).off + 1, none⟩)) | 16 => SRel.is (.int .i64 xo) | 17 => SRel.is (.slice (some bd) lb.length c2) | 18 => SRel.is (.int .i64 (j : Int)) | 19 => SRel.is (.pointer (some (bd.add (j * 3)))) | 20 => SRel.is (.pointer (some ⟨(bd.add (j * 3)).block, (bd.add (j * 3)).off + 1, none⟩)) | 21 => SRel.is (.int .i64 xo) | 22 => SRel.is (.bool false) | 23 => SRel.is (.bool false) | 24 => SRel.is (.bool false) | 25 => SRel.is (.slice (some ad) la.length c1) | 26 => SRel.is (.int .i64 (j : Int)) | 27 => SRel.is (.pointer (some (ad.add (j * 3)))) | 28 => SRel.is (.pointer (some ⟨(ad.add (j * 3)).block, (ad.add (j * 3)).off + 2, none⟩)) | 29 => SRel.is (.slice xA xl.length xc) | 30 => SRel.is (.slice (some bd) lb.length c2) | 31 => SRel.is (.int .i64 (j : Int)) | 32 => SRel.is (.pointer (some (bd.add (j * 3)))) | 33 => SRel.is (.pointer (some ⟨(bd.add (j * 3)).block, (bd.add (j * 3)).off + 2, none⟩)) | 34 => SRel.is (.slice yA yl.length yc) | 35 => SRel.is (.bool false) | 36 => SRel.is (.bool true) | 37 => SRel.is (.bool true) | _ => SRel.any) (by kernel_rfl) (by kernel_rfl) (by kernel_rfl) (slotsOk_of hz0 (by kernel_rfl)) ⟨?_, ?_, ?_, ?_, ?_, ?_, ?_, ?_, ?_, ?_, ?_, ?_, ?_, ?_, ?_, ?_, ?_, ?_, ?_, ?_, ?_, ?_, ?_, ?_, ?_, ?_, ?_, ?_, ?_, ?_, ?_, ?_, ?_, ?_, ?_, ?_, ?_, ?_, trivial⟩ ?_
              · refine calm_step rfl fun a ω κ hb hu hc hK => ?_
                have h0 : a.tmps[0]?.getD undef = .slice (some ad) la.length c1 := (hu 0 rfl).trans e0
                have hk := Lib.hid (fun w1 (h : Below ω.heap.size ω w1) => hK (.slice (some ad) la.length c1) w1 rfl h)
                clear hK hu hc
                go_simp
                exact hk.out _ (Below.refl _ _)
              · refine calm_step rfl fun a ω κ hb hu hc hK => ?_
                have h5 : a.tmps[5]?.getD undef = .int .i64 (j : Int) := (hu 5 rfl).trans e5
                have hk := Lib.hid (fun w1 (h : Below ω.heap.size ω w1) => hK (.int .i64 (j : Int)) w1 rfl h)
                clear hK hu hc
                go_simp
                exact hk.out _ (Below.refl _ _)
              · refine calm_step rfl fun a ω κ hb hu hc hK => ?_
                have h16 : a.tmps[16]?.getD undef = .slice (some ad) la.length c1 := hc 0 16 rfl rfl
                have h17 : a.tmps[17]?.getD undef = .int .i64 (j : Int) := hc 1 17 rfl rfl
                have hk := Lib.hid (fun w1 (h : Below ω.heap.size ω w1) => hK (.pointer (some (ad.add (j * 3)))) w1 rfl h)
                clear hK hu hc
                go_simp
                exact hk.out _ (Below.refl _ _)
              · refine calm_step rfl fun a ω κ hb hu hc hK => ?_
                have h18 : a.tmps[18]?.getD undef = .pointer (some (ad.add (j * 3))) := hc 2 18 rfl rfl
                have hk := Lib.hid (fun w1 (h : Below ω.heap.size ω w1) => hK (.pointer (some (ad.add (j * 3)))) w1 rfl h)
                clear hK hu hc
                go_simp
                exact hk.out _ (Below.refl _ _)
              · refine calm_step rfl fun a ω κ hb hu hc hK => ?_
                have h19 : a.tmps[19]?.getD undef = .pointer (some (ad.add (j * 3))) := hc 3 19 rfl rfl
                have hk := Lib.hid (fun w1 (h : Below ω.heap.size ω w1) => hK (.int .i64 xh) w1 rfl h)
                clear hK hu hc
                obtain ⟨p0, p1, p2, q0, q1, q2⟩ := hC.out ω hb
                go_simp
                exact hk.out _ (Below.refl _ _)
              · refine calm_step rfl fun a ω κ hb hu hc hK => ?_
                have h1 : a.tmps[1]?.getD undef = .slice (some bd) lb.length c2 := (hu 1 rfl).trans e1
                have hk := Lib.hid (fun w1 (h : Below ω.heap.size ω w1) => hK (.slice (some bd) lb.length c2) w1 rfl h)
                clear hK hu hc
                go_simp
                exact hk.out _ (Below.refl _ _)
              · refine calm_step rfl fun a ω κ hb hu hc hK => ?_
                have h5 : a.tmps[5]?.getD undef = .int .i64 (j : Int) := (hu 5 rfl).trans e5
                have hk := Lib.hid (fun w1 (h : Below ω.heap.size ω w1) => hK (.int .i64 (j : Int)) w1 rfl h)
                clear hK hu hc
                go_simp
                exact hk.out _ (Below.refl _ _)
              · refine calm_step rfl fun a ω κ hb hu hc hK => ?_
                have h21 : a.tmps[21]?.getD undef = .slice (some bd) lb.length c2 := hc 5 21 rfl rfl
                have h22 : a.tmps[22]?.getD undef = .int .i64 (j : Int) := hc 6 22 rfl rfl
                have hk := Lib.hid (fun w1 (h : Below ω.heap.size ω w1) => hK (.pointer (some (bd.add (j * 3)))) w1 rfl h)
                clear hK hu hc
                go_simp
                exact hk.out _ (Below.refl _ _)
              · refine calm_step rfl fun a ω κ hb hu hc hK => ?_
                have h23 : a.tmps[23]?.getD undef = .pointer (some (bd.add (j * 3))) := hc 7 23 rfl rfl
                have hk := Lib.hid (fun w1 (h : Below ω.heap.size ω w1) => hK (.pointer (some (bd.add (j * 3)))) w1 rfl h)
                clear hK hu hc
                go_simp
                exact hk.out _ (Below.refl _ _)
              · refine calm_step rfl fun a ω κ hb hu hc hK => ?_
                have h24 : a.tmps[24]?.getD undef = .pointer (some (bd.add (j * 3))) := hc 8 24 rfl rfl
                have hk := Lib.hid (fun w1 (h : Below ω.heap.size ω w1) => hK (.int .i64 xh) w1 rfl h)
                clear hK hu hc
                obtain ⟨p0, p1, p2, q0, q1, q2⟩ := hC.out ω hb
                go_simp
                exact hk.out _ (Below.refl _ _)
              · refine calm_step rfl fun a ω κ hb hu hc hK => ?_
                have h20 : a.tmps[20]?.getD undef = .int .i64 xh := hc 4 20 rfl rfl
                have h25 : a.tmps[25]?.getD undef = .int .i64 xh := hc 9 25 rfl rfl
                have hk := Lib.hid (fun w1 (h : Below ω.heap.size ω w1) => hK (.bool false) w1 rfl h)
                clear hK hu hc
                go_simp
                exact hk.out _ (Below.refl _ _)
              · refine calm_step rfl fun a ω κ hb hu hc hK => ?_
                have h26 : a.tmps[26]?.getD undef = .bool false := hc 10 26 rfl rfl
                have hk := Lib.hid (fun w1 (h : Below ω.heap.size ω w1) => hK (.bool false) w1 rfl h)
                clear hK hu hc
                go_simp
                exact hk.out _ (Below.refl _ _)
              · refine calm_step_guard (g := 11) (b := false) (d := 27) rfl rfl (fun a w hc => hc 11 27 rfl rfl) fun a ω κ hb hu hc hK => ?_
                have h0 : a.tmps[0]?.getD undef = .slice (some ad) la.length c1 := (hu 0 rfl).trans e0
                have hk := Lib.hid (fun w1 (h : Below ω.heap.size ω w1) => hK (.slice (some ad) la.length c1) w1 rfl h)
                clear hK hu hc
                go_simp
                exact hk.out _ (Below.refl _ _)
              · refine calm_step_guard (g := 11) (b := false) (d := 27) rfl rfl (fun a w hc => hc 11 27 rfl rfl) fun a ω κ hb hu hc hK => ?_
                have h5 : a.tmps[5]?.getD undef = .int .i64 (j : Int) := (hu 5 rfl).trans e5
                have hk := Lib.hid (fun w1 (h : Below ω.heap.size ω w1) => hK (.int .i64 (j : Int)) w1 rfl h)
                clear hK hu hc
                go_simp
                exact hk.out _ (Below.refl _ _)
              · refine calm_step_guard (g := 11) (b := false) (d := 27) rfl rfl (fun a w hc => hc 11 27 rfl rfl) fun a ω κ hb hu hc hK => ?_
                have h28 : a.tmps[28]?.getD undef = .slice (some ad) la.length c1 := hc 12 28 rfl rfl
                have h29 : a.tmps[29]?.getD undef = .int .i64 (j : Int) := hc 13 29 rfl rfl
                have hk := Lib.hid (fun w1 (h : Below ω.heap.size ω w1) => hK (.pointer (some (ad.add (j * 3)))) w1 rfl h)
                clear hK hu hc
                go_simp
                exact hk.out _ (Below.refl _ _)
              · refine calm_step_guard (g := 11) (b := false) (d := 27) rfl rfl (fun a w hc => hc 11 27 rfl rfl) fun a ω κ hb hu hc hK => ?_
                have h30 : a.tmps[30]?.getD undef = .pointer (some (ad.add (j * 3))) := hc 14 30 rfl rfl
                have hk := Lib.hid (fun w1 (h : Below ω.heap.size ω w1) => hK (.pointer (some ⟨(ad.add (j * 3)).block, (ad.add (j * 3)).off + 1, none⟩)) w1 rfl h)
                clear hK hu hc
                go_simp
                exact hk.out _ (Below.refl _ _)
              · refine calm_step_guard (g := 11) (b := false) (d := 27) rfl rfl (fun a w hc => hc 11 27 rfl rfl) fun a ω κ hb hu hc hK => ?_
                have h31 : a.tmps[31]?.getD undef = .pointer (some ⟨(ad.add (j * 3)).block, (ad.add (j * 3)).off + 1, none⟩) := hc 15 31 rfl rfl
                have hk := Lib.hid (fun w1 (h : Below ω.heap.size ω w1) => hK (.int .i64 xo) w1 rfl h)
                clear hK hu hc
                obtain ⟨p0, p1, p2, q0, q1, q2⟩ := hC.out ω hb
                go_simp
                exact hk.out _ (Below.refl _ _)
              · refine calm_step_guard (g := 11) (b := false) (d := 27) rfl rfl (fun a w hc => hc 11 27 rfl rfl) fun a ω κ hb hu hc hK => ?_
                have h1 : a.tmps[1]?.getD undef = .slice (some bd) lb.length c2 := (hu 1 rfl).trans e1
                have hk := Lib.hid (fun w1 (h : Below ω.heap.size ω w1) => hK (.slice (some bd) lb.length c2) w1 rfl h)
                clear hK hu hc
                go_simp
                exact hk.out _ (Below.refl _ _)
              · refine calm_step_guard (g := 11) (b := false) (d := 27) rfl rfl (fun a w hc => hc 11 27 rfl rfl) fun a ω κ hb hu hc hK => ?_
                have h5 : a.tmps[5]?.getD undef = .int .i64 (j : Int) := (hu 5 rfl).trans e5
                have hk := Lib.hid (fun w1 (h : Below ω.heap.size ω w1) => hK (.int .i64 (j : Int)) w1 rfl h)
                clear hK hu hc
                go_simp
                exact hk.out _ (Below.refl _ _)
              · refine calm_step_guard (g := 11) (b := false) (d := 27) rfl rfl (fun a w hc => hc 11 27 rfl rfl) fun a ω κ hb hu hc hK => ?_
                have h33 : a.tmps[33]?.getD undef = .slice (some bd) lb.length c2 := hc 17 33 rfl rfl
                have h34 : a.tmps[34]?.getD undef = .int .i64 (j : Int) := hc 18 34 rfl rfl
                have hk := Lib.hid (fun w1 (h : Below ω.heap.size ω w1) => hK (.pointer (some (bd.add (j * 3)))) w1 rfl h)
                clear hK hu hc
                go_simp
                exact hk.out _ (Below.refl _ _)
              · refine calm_step_guard (g := 11) (b := false) (d := 27) rfl rfl (fun a w hc => hc 11 27 rfl rfl) fun a ω κ hb hu hc hK => ?_
                have h35 : a.tmps[35]?.getD undef = .pointer (some (bd.add (j * 3))) := hc 19 35 rfl rfl
                have hk := Lib.hid (fun w1 (h : Below ω.heap.size ω w1) => hK (.pointer (some ⟨(bd.add (j * 3)).block, (bd.add (j * 3)).off + 1, none⟩)) w1 rfl h)
                clear hK hu hc
                go_simp
                exact hk.out _ (Below.refl _ _)
              · refine calm_step_guard (g := 11) (b := false) (d := 27) rfl rfl (fun a w hc => hc 11 27 rfl rfl) fun a ω κ hb hu hc hK => ?_
                have h36 : a.tmps[36]?.getD undef = .pointer (some ⟨(bd.add (j * 3)).block, (bd.add (j * 3)).off + 1, none⟩) := hc 20 36 rfl rfl
                have hk := Lib.hid (fun w1 (h : Below ω.heap.size ω w1) => hK (.int .i64 xo) w1 rfl h)
                clear hK hu hc
                obtain ⟨p0, p1, p2, q0, q1, q2⟩ := hC.out ω hb
                go_simp
                exact hk.out _ (Below.refl _ _)
              · refine calm_step_guard (g := 11) (b := false) (d := 27) rfl rfl (fun a w hc => hc 11 27 rfl rfl) fun a ω κ hb hu hc hK => ?_
                have h32 : a.tmps[32]?.getD undef = .int .i64 xo := hc 16 32 rfl rfl
                have h37 : a.tmps[37]?.getD undef = .int .i64 xo := hc 21 37 rfl rfl
                have hk := Lib.hid (fun w1 (h : Below ω.heap.size ω w1) => hK (.bool false) w1 rfl h)
                clear hK hu hc
                go_simp
                exact hk.out _ (Below.refl _ _)
              · refine calm_step rfl fun a ω κ hb hu hc hK => ?_
                have h27 : a.tmps[27]?.getD undef = .bool false := hc 11 27 rfl rfl
                have h38 : a.tmps[38]?.getD undef = .bool false := hc 22 38 rfl rfl
                have hk := Lib.hid (fun w1 (h : Below ω.heap.size ω w1) => hK (.bool false) w1 rfl h)
                clear hK hu hc
                go_simp
                exact hk.out _ (Below.refl _ _)
              · refine calm_step rfl fun a ω κ hb hu hc hK => ?_
                have h39 : a.tmps[39]?.getD undef = .bool false := hc 23 39 rfl rfl
                have hk := Lib.hid (fun w1 (h : Below ω.heap.size ω w1) => hK (.bool false) w1 rfl h)
                clear hK hu hc
                go_simp
                exact hk.out _ (Below.refl _ _)
              · refine calm_step_guard (g := 24) (b := false) (d := 40) rfl rfl (fun a w hc => hc 24 40 rfl rfl) fun a ω κ hb hu hc hK => ?_
                have h0 : a.tmps[0]?.getD undef = .slice (some ad) la.length c1 := (hu 0 rfl).trans e0
                have hk := Lib.hid (fun w1 (h : Below ω.heap.size ω w1) => hK (.slice (some ad) la.length c1) w1 rfl h)
                clear hK hu hc
                go_simp
                exact hk.out _ (Below.refl _ _)
              · refine calm_step_guard (g := 24) (b := false) (d := 40) rfl rfl (fun a w hc => hc 24 40 rfl rfl) fun a ω κ hb hu hc hK => ?_
                have h5 : a.tmps[5]?.getD undef = .int .i64 (j : Int) := (hu 5 rfl).trans e5
                have hk := Lib.hid (fun w1 (h : Below ω.heap.size ω w1) => hK (.int .i64 (j : Int)) w1 rfl h)
                clear hK hu hc
                go_simp
                exact hk.out _ (Below.refl _ _)
              · refine calm_step_guard (g := 24) (b := false) (d := 40) rfl rfl (fun a w hc => hc 24 40 rfl rfl) fun a ω κ hb hu hc hK => ?_
                have h41 : a.tmps[41]?.getD undef = .slice (some ad) la.length c1 := hc 25 41 rfl rfl
                have h42 : a.tmps[42]?.getD undef = .int .i64 (j : Int) := hc 26 42 rfl rfl
                have hk := Lib.hid (fun w1 (h : Below ω.heap.size ω w1) => hK (.pointer (some (ad.add (j * 3)))) w1 rfl h)
                clear hK hu hc
                go_simp
                exact hk.out _ (Below.refl _ _)
              · refine calm_step_guard (g := 24) (b := false) (d := 40) rfl rfl (fun a w hc => hc 24 40 rfl rfl) fun a ω κ hb hu hc hK => ?_
                have h43 : a.tmps[43]?.getD undef = .pointer (some (ad.add (j * 3))) := hc 27 43 rfl rfl
                have hk := Lib.hid (fun w1 (h : Below ω.heap.size ω w1) => hK (.pointer (some ⟨(ad.add (j * 3)).block, (ad.add (j * 3)).off + 2, none⟩)) w1 rfl h)
                clear hK hu hc
                go_simp
                exact hk.out _ (Below.refl _ _)
              · refine calm_step_guard (g := 24) (b := false) (d := 40) rfl rfl (fun a w hc => hc 24 40 rfl rfl) fun a ω κ hb hu hc hK => ?_
                have h44 : a.tmps[44]?.getD undef = .pointer (some ⟨(ad.add (j * 3)).block, (ad.add (j * 3)).off + 2, none⟩) := hc 28 44 rfl rfl
                have hk := Lib.hid (fun w1 (h : Below ω.heap.size ω w1) => hK (.slice xA xl.length xc) w1 rfl h)
                clear hK hu hc
                obtain ⟨p0, p1, p2, q0, q1, q2⟩ := hC.out ω hb
                go_simp
                exact hk.out _ (Below.refl _ _)
              · refine calm_step_guard (g := 24) (b := false) (d := 40) rfl rfl (fun a w hc => hc 24 40 rfl rfl) fun a ω κ hb hu hc hK => ?_
                have h1 : a.tmps[1]?.getD undef = .slice (some bd) lb.length c2 := (hu 1 rfl).trans e1
                have hk := Lib.hid (fun w1 (h : Below ω.heap.size ω w1) => hK (.slice (some bd) lb.length c2) w1 rfl h)
                clear hK hu hc
                go_simp
                exact hk.out _ (Below.refl _ _)
              · refine calm_step_guard (g := 24) (b := false) (d := 40) rfl rfl (fun a w hc => hc 24 40 rfl rfl) fun a ω κ hb hu hc hK => ?_
                have h5 : a.tmps[5]?.getD undef = .int .i64 (j : Int) := (hu 5 rfl).trans e5
                have hk := Lib.hid (fun w1 (h : Below ω.heap.size ω w1) => hK (.int .i64 (j : Int)) w1 rfl h)
                clear hK hu hc
                go_simp
                exact hk.out _ (Below.refl _ _)
              · refine calm_step_guard (g := 24) (b := false) (d := 40) rfl rfl (fun a w hc => hc 24 40 rfl rfl) fun a ω κ hb hu hc hK => ?_
                have h46 : a.tmps[46]?.getD undef = .slice (some bd) lb.length c2 := hc 30 46 rfl rfl
                have h47 : a.tmps[47]?.getD undef = .int .i64 (j : Int) := hc 31 47 rfl rfl
                have hk := Lib.hid (fun w1 (h : Below ω.heap.size ω w1) => hK (.pointer (some (bd.add (j * 3)))) w1 rfl h)
                clear hK hu hc
                go_simp
                exact hk.out _ (Below.refl _ _)
              · refine calm_step_guard (g := 24) (b := false) (d := 40) rfl rfl (fun a w hc => hc 24 40 rfl rfl) fun a ω κ hb hu hc hK => ?_
                have h48 : a.tmps[48]?.getD undef = .pointer (some (bd.add (j * 3))) := hc 32 48 rfl rfl
                have hk := Lib.hid (fun w1 (h : Below ω.heap.size ω w1) => hK (.pointer (some ⟨(bd.add (j * 3)).block, (bd.add (j * 3)).off + 2, none⟩)) w1 rfl h)
                clear hK hu hc
                go_simp
                exact hk.out _ (Below.refl _ _)
              · refine calm_step_guard (g := 24) (b := false) (d := 40) rfl rfl (fun a w hc => hc 24 40 rfl rfl) fun a ω κ hb hu hc hK => ?_
                have h49 : a.tmps[49]?.getD undef = .pointer (some ⟨(bd.add (j * 3)).block, (bd.add (j * 3)).off + 2, none⟩) := hc 33 49 rfl rfl
                have hk := Lib.hid (fun w1 (h : Below ω.heap.size ω w1) => hK (.slice yA yl.length yc) w1 rfl h)
                clear hK hu hc
                obtain ⟨p0, p1, p2, q0, q1, q2⟩ := hC.out ω hb
                go_simp
                exact hk.out _ (Below.refl _ _)
              · refine calm_step_guard (g := 24) (b := false) (d := 40) rfl rfl (fun a w hc => hc 24 40 rfl rfl) fun a ω κ hb hu hc hK => ?_
                have h45 : a.tmps[45]?.getD undef = .slice xA xl.length xc := hc 29 45 rfl rfl
                have h50 : a.tmps[50]?.getD undef = .slice yA yl.length yc := hc 34 50 rfl rfl
                have hk := Lib.hid (fun w1 (h : Below ω.heap.size ω w1) => hK (.bool false) w1 rfl h)
                clear hK hu hc
                go_simp
                go_at_call 24
                refine (hS.out ω hb).mono ?_
                rintro e w8 ⟨rfl, hb8⟩
                rw [hs.out]
                exact hk.out _ hb8
              · refine calm_step_guard (g := 24) (b := false) (d := 40) rfl rfl (fun a w hc => hc 24 40 rfl rfl) fun a ω κ hb hu hc hK => ?_
                have h51 : a.tmps[51]?.getD undef = .bool false := hc 35 51 rfl rfl
                have hk := Lib.hid (fun w1 (h : Below ω.heap.size ω w1) => hK (.bool true) w1 rfl h)
                clear hK hu hc
                go_simp
                exact hk.out _ (Below.refl _ _)
              · refine calm_step rfl fun a ω κ hb hu hc hK => ?_
                have h40 : a.tmps[40]?.getD undef = .bool false := hc 24 40 rfl rfl
                have h52 : a.tmps[52]?.getD undef = .bool true := hc 36 52 rfl rfl
                have hk := Lib.hid (fun w1 (h : Below ω.heap.size ω w1) => hK (.bool true) w1 rfl h)
                clear hK hu hc
                go_simp
                exact hk.out _ (Below.refl _ _)
              · intro a1 w1 hb1 hu1 hsz1 hdf1 hc1
                have ha0 := hha0.out
                subst ha0
                have he := act_patch (n := 55) [false, false, false, false, false, false, false, false, false, false, false, false, false, false, false, false, true, true, true, true, true, true, true, true, true, true, true, true, true, true, true, true, true, true, true, true, true, true, true, true, true, true, true, true, true, true, true, true, true, true, true, true, true, true, false] rfl (by kernel_rfl) hu1 hsz1 hdf1
                simp only [patch, cond_true, cond_false, Nat.reduceAdd] at he
                have hkn53 : a1.tmps[53]?.getD undef = .bool true := hc1 37 53 rfl
                have hL7 := Lib.hid (hB.out w1 hb1)
                clear hb1 hu1 hsz1 hdf1 hc1 hz0 hha0 e0 e1 e5
                rw [he]
                clear he
                rw [hkn53]
                clear hkn53
                generalize a1.tmps[16]?.getD undef = x16 at *
                generalize a1.tmps[17]?.getD undef = x17 at *
                generalize a1.tmps[18]?.getD undef = x18 at *
                generalize a1.tmps[19]?.getD undef = x19 at *
                generalize a1.tmps[20]?.getD undef = x20 at *
                generalize a1.tmps[21]?.getD undef = x21 at *
                generalize a1.tmps[22]?.getD undef = x22 at *
                generalize a1.tmps[23]?.getD undef = x23 at *
                generalize a1.tmps[24]?.getD undef = x24 at *
                generalize a1.tmps[25]?.getD undef = x25 at *
                generalize a1.tmps[26]?.getD undef = x26 at *
                generalize a1.tmps[27]?.getD undef = x27 at *
                generalize a1.tmps[28]?.getD undef = x28 at *
                generalize a1.tmps[29]?.getD undef = x29 at *
                generalize a1.tmps[30]?.getD undef = x30 at *
                generalize a1.tmps[31]?.getD undef = x31 at *
                generalize a1.tmps[32]?.getD undef = x32 at *
                generalize a1.tmps[33]?.getD undef = x33 at *
                generalize a1.tmps[34]?.getD undef = x34 at *
                generalize a1.tmps[35]?.getD undef = x35 at *
                generalize a1.tmps[36]?.getD undef = x36 at *
                generalize a1.tmps[37]?.getD undef = x37 at *
                generalize a1.tmps[38]?.getD undef = x38 at *
                generalize a1.tmps[39]?.getD undef = x39 at *
                generalize a1.tmps[40]?.getD undef = x40 at *
                generalize a1.tmps[41]?.getD undef = x41 at *
                generalize a1.tmps[42]?.getD undef = x42 at *
                generalize a1.tmps[43]?.getD undef = x43 at *
                generalize a1.tmps[44]?.getD undef = x44 at *
                generalize a1.tmps[45]?.getD undef = x45 at *
                generalize a1.tmps[46]?.getD undef = x46 at *
                generalize a1.tmps[47]?.getD undef = x47 at *
                generalize a1.tmps[48]?.getD undef = x48 at *
                generalize a1.tmps[49]?.getD undef = x49 at *
                generalize a1.tmps[50]?.getD undef = x50 at *
                generalize a1.tmps[51]?.getD undef = x51 at *
                generalize a1.tmps[52]?.getD undef = x52 at *
                go_wp2
                go_ret
                exact ⟨by rw [hz.out]; rfl, hL7.out⟩
            · have hz := Lib.hid (hyes.out (by have : xl.map At.kv = yl.map At.kv := by simpa [sameKV] using hs
                                               rw [this]))
              have hs := Lib.hid hs
              generalize ha0 : Act.mk _ _ = a0
              have e0 : a0.tmps[0]?.getD undef = .slice (some ad) la.length c1 := by rw [← ha0]; rfl
              have e1 : a0.tmps[1]?.getD undef = .slice (some bd) lb.length c2 := by rw [← ha0]; rfl
              have e5 : a0.tmps[5]?.getD undef = .int .i64 (j : Int) := by rw [← ha0]; rfl
              have hz0 : a0.tmps.size = 55 := by rw [← ha0]; rfl
              have hha0 := Lib.hid ha0
              clear ha0
              refine wp_region_calm (fun jx_ => match jx_ with | 0 => SRel.is (.slice (some ad) la.length c1) | 1 => SRel.is (.int .i64 (j : Int)) | 2 => SRel.is (.pointer (some (ad.add (j * 3)))) | 3 => SRel.is (.pointer (some (ad.add (j * 3)))) | 4 => SRel.is (.int .i64 xh) | 5 => SRel.is (.slice (some bd) lb.length c2) | 6 => SRel.is (.int .i64 (j : Int)) | 7 => SRel.is (.pointer (some (bd.add (j * 3)))) | 8 => SRel.is (.pointer (some (bd.add (j * 3)))) | 9 => SRel.is (.int .i64 xh) | 10 => SRel.is (.bool false) | 11 => SRel.is (.bool false) | 12 => SRel.is (.slice (some ad) la.length c1) | 13 => SRel.is (.int .i64 (j : Int)) | 14 => SRel.is (.pointer (some (ad.add (j * 3)))) | 15 => SRel.is (.pointer (some ⟨(ad.add (j * 3)).block, (ad.add (j * 3)).off + 1, none⟩)) | 16 => SRel.is (.int .i64 xo) | 17 => SRel.is (.slice (some bd) lb.length c2) | 18 => SRel.is (.int .i64 (j : Int)) | 19 => SRel.is (.pointer (some (bd.add (j * 3)))) | 20 => SRel.is (.pointer (some ⟨(bd.add (j * 3)).block, (bd.add (j * 3)).off + 1, none⟩)) | 21 => SRel.is (.int .i64 xo) | 22 => SRel.is (.bool false) | 23 => SRel.is (.bool false) | 24 => SRel.is (.bool false) | 25 => SRel.is (.slice (some ad) la.length c1) | 26 => SRel.is (.int .i64 (j : Int)) | 27 => SRel.is (.pointer (some (ad.add (j * 3)))) | 28 => SRel.is (.pointer (some ⟨(ad.add (j * 3)).block, (ad.add (j * 3)).off + 2, none⟩)) | 29 => SRel.is (.slice xA xl.length xc) | 30 => SRel.is (.slice (some bd) lb.length c2) | 31 => SRel.is (.int .i64 (j : Int)) | 32 => SRel.is (.pointer (some (bd.add (j * 3)))) | 33 => SRel.is (.pointer (some ⟨(bd.add (j * 3)).block, (bd.add (j * 3)).off + 2, none⟩)) | 34 => SRel.is (.slice yA yl.length yc) | 35 => SRel.is (.bool true) | 36 => SRel.is (.bool false) | 37 => SRel.is (.bool false) | _ => SRel.any) (by kernel_rfl) (by kernel_rfl) (by kernel_rfl) (slotsOk_of hz0 (by kernel_rfl)) ⟨?_, ?_, ?_, ?_, ?_, ?_, ?_, ?_, ?_, ?_, ?_, ?_, ?_, ?_, ?_, ?_, ?_, ?_, ?_, ?_, ?_, ?_, ?_, ?_, ?_, ?_, ?_, ?_, ?_, ?_, ?_, ?_, ?_, ?_, ?_, ?_, ?_, ?_, trivial⟩ ?_
              · refine calm_step rfl fun a ω κ hb hu hc hK => ?_
                have h0 : a.tmps[0]?.getD undef = .slice (some ad) la.length c1 := (hu 0 rfl).trans e0
                have hk := Lib.hid (fun w1 (h : Below ω.heap.size ω w1) => hK (.slice (some ad) la.length c1) w1 rfl h)
                clear hK hu hc
                go_simp
                exact hk.out _ (Below.refl _ _)
              · refine calm_step rfl fun a ω κ hb hu hc hK => ?_
                have h5 : a.tmps[5]?.getD undef = .int .i64 (j : Int) := (hu 5 rfl).trans e5
                have hk := Lib.hid (fun w1 (h : Below ω.heap.size ω w1) => hK (.int .i64 (j : Int)) w1 rfl h)
                clear hK hu hc
                go_simp
                exact hk.out _ (Below.refl _ _)
              · refine calm_step rfl fun a ω κ hb hu hc hK => ?_
                have h16 : a.tmps[16]?.getD undef = .slice (some ad) la.length c1 := hc 0 16 rfl rfl
                have h17 : a.tmps[17]?.getD undef = .int .i64 (j : Int) := hc 1 17 rfl rfl
                have hk := Lib.hid (fun w1 (h : Below ω.heap.size ω w1) => hK (.pointer (some (ad.add (j * 3)))) w1 rfl h)
                clear hK hu hc
                go_simp
                exact hk.out _ (Below.refl _ _)
              · refine calm_step rfl fun a ω κ hb hu hc hK => ?_
                have h18 : a.tmps[18]?.getD undef = .pointer (some (ad.add (j * 3))) := hc 2 18 rfl rfl
                have hk := Lib.hid (fun w1 (h : Below ω.heap.size ω w1) => hK (.pointer (some (ad.add (j * 3)))) w1 rfl h)
                clear hK hu hc
                go_simp
                exact hk.out _ (Below.refl _ _)
              · refine calm_step rfl fun a ω κ hb hu hc hK => ?_
                have h19 : a.tmps[19]?.getD undef = .pointer (some (ad.add (j * 3))) := hc 3 19 rfl rfl
                have hk := Lib.hid (fun w1 (h : Below ω.heap.size ω w1) => hK (.int .i64 xh) w1 rfl h)
                clear hK hu hc
                obtain ⟨p0, p1, p2, q0, q1, q2⟩ := hC.out ω hb
                go_simp
                exact hk.out _ (Below.refl _ _)
              · refine calm_step rfl fun a ω κ hb hu hc hK => ?_
                have h1 : a.tmps[1]?.getD undef = .slice (some bd) lb.length c2 := (hu 1 rfl).trans e1
                have hk := Lib.hid (fun w1 (h : Below ω.heap.size ω w1) => hK (.slice (some bd) lb.length c2) w1 rfl h)
                clear hK hu hc
                go_simp
                exact hk.out _ (Below.refl _ _)
              · refine calm_step rfl fun a ω κ hb hu hc hK => ?_
                have h5 : a.tmps[5]?.getD undef = .int .i64 (j : Int) := (hu 5 rfl).trans e5
                have hk := Lib.hid (fun w1 (h : Below ω.heap.size ω w1) => hK (.int .i64 (j : Int)) w1 rfl h)
                clear hK hu hc
                go_simp
                exact hk.out _ (Below.refl _ _)
              · refine calm_step rfl fun a ω κ hb hu hc hK => ?_
                have h21 : a.tmps[21]?.getD undef = .slice (some bd) lb.length c2 := hc 5 21 rfl rfl
                have h22 : a.tmps[22]?.getD undef = .int .i64 (j : Int) := hc 6 22 rfl rfl
                have hk := Lib.hid (fun w1 (h : Below ω.heap.size ω w1) => hK (.pointer (some (bd.add (j * 3)))) w1 rfl h)
                clear hK hu hc
                go_simp
                exact hk.out _ (Below.refl _ _)
              · refine calm_step rfl fun a ω κ hb hu hc hK => ?_
                have h23 : a.tmps[23]?.getD undef = .pointer (some (bd.add (j * 3))) := hc 7 23 rfl rfl
                have hk := Lib.hid (fun w1 (h : Below ω.heap.size ω w1) => hK (.pointer (some (bd.add (j * 3)))) w1 rfl h)
                clear hK hu hc
                go_simp
                exact hk.out _ (Below.refl _ _)
              · refine calm_step rfl fun a ω κ hb hu hc hK => ?_
                have h24 : a.tmps[24]?.getD undef = .pointer (some (bd.add (j * 3))) := hc 8 24 rfl rfl
                have hk := Lib.hid (fun w1 (h : Below ω.heap.size ω w1) => hK (.int .i64 xh) w1 rfl h)
                clear hK hu hc
                obtain ⟨p0, p1, p2, q0, q1, q2⟩ := hC.out ω hb
                go_simp
                exact hk.out _ (Below.refl _ _)
              · refine calm_step rfl fun a ω κ hb hu hc hK => ?_
                have h20 : a.tmps[20]?.getD undef = .int .i64 xh := hc 4 20 rfl rfl
                have h25 : a.tmps[25]?.getD undef = .int .i64 xh := hc 9 25 rfl rfl
                have hk := Lib.hid (fun w1 (h : Below ω.heap.size ω w1) => hK (.bool false) w1 rfl h)
                clear hK hu hc
                go_simp
                exact hk.out _ (Below.refl _ _)
              · refine calm_step rfl fun a ω κ hb hu hc hK => ?_
                have h26 : a.tmps[26]?.getD undef = .bool false := hc 10 26 rfl rfl
                have hk := Lib.hid (fun w1 (h : Below ω.heap.size ω w1) => hK (.bool false) w1 rfl h)
                clear hK hu hc
                go_simp
                exact hk.out _ (Below.refl _ _)
              · refine calm_step_guard (g := 11) (b := false) (d := 27) rfl rfl (fun a w hc => hc 11 27 rfl rfl) fun a ω κ hb hu hc hK => ?_
                have h0 : a.tmps[0]?.getD undef = .slice (some ad) la.length c1 := (hu 0 rfl).trans e0
                have hk := Lib.hid (fun w1 (h : Below ω.heap.size ω w1) => hK (.slice (some ad) la.length c1) w1 rfl h)
                clear hK hu hc
                go_simp
                exact hk.out _ (Below.refl _ _)
              · refine calm_step_guard (g := 11) (b := false) (d := 27) rfl rfl (fun a w hc => hc 11 27 rfl rfl) fun a ω κ hb hu hc hK => ?_
                have h5 : a.tmps[5]?.getD undef = .int .i64 (j : Int) := (hu 5 rfl).trans e5
                have hk := Lib.hid (fun w1 (h : Below ω.heap.size ω w1) => hK (.int .i64 (j : Int)) w1 rfl h)
                clear hK hu hc
                go_simp
                exact hk.out _ (Below.refl _ _)
              · refine calm_step_guard (g := 11) (b := false) (d := 27) rfl rfl (fun a w hc => hc 11 27 rfl rfl) fun a ω κ hb hu hc hK => ?_
                have h28 : a.tmps[28]?.getD undef = .slice (some ad) la.length c1 := hc 12 28 rfl rfl
                have h29 : a.tmps[29]?.getD undef = .int .i64 (j : Int) := hc 13 29 rfl rfl
                have hk := Lib.hid (fun w1 (h : Below ω.heap.size ω w1) => hK (.pointer (some (ad.add (j * 3)))) w1 rfl h)
                clear hK hu hc
                go_simp
                exact hk.out _ (Below.refl _ _)
              · refine calm_step_guard (g := 11) (b := false) (d := 27) rfl rfl (fun a w hc => hc 11 27 rfl rfl) fun a ω κ hb hu hc hK => ?_
                have h30 : a.tmps[30]?.getD undef = .pointer (some (ad.add (j * 3))) := hc 14 30 rfl rfl
                have hk := Lib.hid (fun w1 (h : Below ω.heap.size ω w1) => hK (.pointer (some ⟨(ad.add (j * 3)).block, (ad.add (j * 3)).off + 1, none⟩)) w1 rfl h)
                clear hK hu hc
                go_simp
                exact hk.out _ (Below.refl _ _)
              · refine calm_step_guard (g := 11) (b := false) (d := 27) rfl rfl (fun a w hc => hc 11 27 rfl rfl) fun a ω κ hb hu hc hK => ?_
                have h31 : a.tmps[31]?.getD undef = .pointer (some ⟨(ad.add (j * 3)).block, (ad.add (j * 3)).off + 1, none⟩) := hc 15 31 rfl rfl
                have hk := Lib.hid (fun w1 (h : Below ω.heap.size ω w1) => hK (.int .i64 xo) w1 rfl h)
                clear hK hu hc
                obtain ⟨p0, p1, p2, q0, q1, q2⟩ := hC.out ω hb
                go_simp
                exact hk.out _ (Below.refl _ _)
              · refine calm_step_guard (g := 11) (b := false) (d := 27) rfl rfl (fun a w hc => hc 11 27 rfl rfl) fun a ω κ hb hu hc hK => ?_
                have h1 : a.tmps[1]?.getD undef = .slice (some bd) lb.length c2 := (hu 1 rfl).trans e1
                have hk := Lib.hid (fun w1 (h : Below ω.heap.size ω w1) => hK (.slice (some bd) lb.length c2) w1 rfl h)
                clear hK hu hc
                go_simp
                exact hk.out _ (Below.refl _ _)
              · refine calm_step_guard (g := 11) (b := false) (d := 27) rfl rfl (fun a w hc => hc 11 27 rfl rfl) fun a ω κ hb hu hc hK => ?_
                have h5 : a.tmps[5]?.getD undef = .int .i64 (j : Int) := (hu 5 rfl).trans e5
                have hk := Lib.hid (fun w1 (h : Below ω.heap.size ω w1) => hK (.int .i64 (j : Int)) w1 rfl h)
                clear hK hu hc
                go_simp
                exact hk.out _ (Below.refl _ _)
              · refine calm_step_guard (g := 11) (b := false) (d := 27) rfl rfl (fun a w hc => hc 11 27 rfl rfl) fun a ω κ hb hu hc hK => ?_
                have h33 : a.tmps[33]?.getD undef = .slice (some bd) lb.length c2 := hc 17 33 rfl rfl
                have h34 : a.tmps[34]?.getD undef = .int .i64 (j : Int) := hc 18 34 rfl rfl
                have hk := Lib.hid (fun w1 (h : Below ω.heap.size ω w1) => hK (.pointer (some (bd.add (j * 3)))) w1 rfl h)
                clear hK hu hc
                go_simp
                exact hk.out _ (Below.refl _ _)
              · refine calm_step_guard (g := 11) (b := false) (d := 27) rfl rfl (fun a w hc => hc 11 27 rfl rfl) fun a ω κ hb hu hc hK => ?_
                have h35 : a.tmps[35]?.getD undef = .pointer (some (bd.add (j * 3))) := hc 19 35 rfl rfl
                have hk := Lib.hid (fun w1 (h : Below ω.heap.size ω w1) => hK (.pointer (some ⟨(bd.add (j * 3)).block, (bd.add (j * 3)).off + 1, none⟩)) w1 rfl h)
                clear hK hu hc
                go_simp
                exact hk.out _ (Below.refl _ _)
              · refine calm_step_guard (g := 11) (b := false) (d := 27) rfl rfl (fun a w hc => hc 11 27 rfl rfl) fun a ω κ hb hu hc hK => ?_
                have h36 : a.tmps[36]?.getD undef = .pointer (some ⟨(bd.add (j * 3)).block, (bd.add (j * 3)).off + 1, none⟩) := hc 20 36 rfl rfl
                have hk := Lib.hid (fun w1 (h : Below ω.heap.size ω w1) => hK (.int .i64 xo) w1 rfl h)
                clear hK hu hc
                obtain ⟨p0, p1, p2, q0, q1, q2⟩ := hC.out ω hb
                go_simp
                exact hk.out _ (Below.refl _ _)
              · refine calm_step_guard (g := 11) (b := false) (d := 27) rfl rfl (fun a w hc => hc 11 27 rfl rfl) fun a ω κ hb hu hc hK => ?_
                have h32 : a.tmps[32]?.getD undef = .int .i64 xo := hc 16 32 rfl rfl
                have h37 : a.tmps[37]?.getD undef = .int .i64 xo := hc 21 37 rfl rfl
                have hk := Lib.hid (fun w1 (h : Below ω.heap.size ω w1) => hK (.bool false) w1 rfl h)
                clear hK hu hc
                go_simp
                exact hk.out _ (Below.refl _ _)
              · refine calm_step rfl fun a ω κ hb hu hc hK => ?_
                have h27 : a.tmps[27]?.getD undef = .bool false := hc 11 27 rfl rfl
                have h38 : a.tmps[38]?.getD undef = .bool false := hc 22 38 rfl rfl
                have hk := Lib.hid (fun w1 (h : Below ω.heap.size ω w1) => hK (.bool false) w1 rfl h)
                clear hK hu hc
                go_simp
                exact hk.out _ (Below.refl _ _)
              · refine calm_step rfl fun a ω κ hb hu hc hK => ?_
                have h39 : a.tmps[39]?.getD undef = .bool false := hc 23 39 rfl rfl
                have hk := Lib.hid (fun w1 (h : Below ω.heap.size ω w1) => hK (.bool false) w1 rfl h)
                clear hK hu hc
                go_simp
                exact hk.out _ (Below.refl _ _)
              · refine calm_step_guard (g := 24) (b := false) (d := 40) rfl rfl (fun a w hc => hc 24 40 rfl rfl) fun a ω κ hb hu hc hK => ?_
                have h0 : a.tmps[0]?.getD undef = .slice (some ad) la.length c1 := (hu 0 rfl).trans e0
                have hk := Lib.hid (fun w1 (h : Below ω.heap.size ω w1) => hK (.slice (some ad) la.length c1) w1 rfl h)
                clear hK hu hc
                go_simp
                exact hk.out _ (Below.refl _ _)
              · refine calm_step_guard (g := 24) (b := false) (d := 40) rfl rfl (fun a w hc => hc 24 40 rfl rfl) fun a ω κ hb hu hc hK => ?_
                have h5 : a.tmps[5]?.getD undef = .int .i64 (j : Int) := (hu 5 rfl).trans e5
                have hk := Lib.hid (fun w1 (h : Below ω.heap.size ω w1) => hK (.int .i64 (j : Int)) w1 rfl h)
                clear hK hu hc
                go_simp
                exact hk.out _ (Below.refl _ _)
              · refine calm_step_guard (g := 24) (b := false) (d := 40) rfl rfl (fun a w hc => hc 24 40 rfl rfl) fun a ω κ hb hu hc hK => ?_
                have h41 : a.tmps[41]?.getD undef = .slice (some ad) la.length c1 := hc 25 41 rfl rfl
                have h42 : a.tmps[42]?.getD undef = .int .i64 (j : Int) := hc 26 42 rfl rfl
                have hk := Lib.hid (fun w1 (h : Below ω.heap.size ω w1) => hK (.pointer (some (ad.add (j * 3)))) w1 rfl h)
                clear hK hu hc
                go_simp
                exact hk.out _ (Below.refl _ _)
              · refine calm_step_guard (g := 24) (b := false) (d := 40) rfl rfl (fun a w hc => hc 24 40 rfl rfl) fun a ω κ hb hu hc hK => ?_
                have h43 : a.tmps[43]?.getD undef = .pointer (some (ad.add (j * 3))) := hc 27 43 rfl rfl
                have hk := Lib.hid (fun w1 (h : Below ω.heap.size ω w1) => hK (.pointer (some ⟨(ad.add (j * 3)).block, (ad.add (j * 3)).off + 2, none⟩)) w1 rfl h)
                clear hK hu hc
                go_simp
                exact hk.out _ (Below.refl _ _)
              · refine calm_step_guard (g := 24) (b := false) (d := 40) rfl rfl (fun a w hc => hc 24 40 rfl rfl) fun a ω κ hb hu hc hK => ?_
                have h44 : a.tmps[44]?.getD undef = .pointer (some ⟨(ad.add (j * 3)).block, (ad.add (j * 3)).off + 2, none⟩) := hc 28 44 rfl rfl
                have hk := Lib.hid (fun w1 (h : Below ω.heap.size ω w1) => hK (.slice xA xl.length xc) w1 rfl h)
                clear hK hu hc
                obtain ⟨p0, p1, p2, q0, q1, q2⟩ := hC.out ω hb
                go_simp
                exact hk.out _ (Below.refl _ _)
              · refine calm_step_guard (g := 24) (b := false) (d := 40) rfl rfl (fun a w hc => hc 24 40 rfl rfl) fun a ω κ hb hu hc hK => ?_
                have h1 : a.tmps[1]?.getD undef = .slice (some bd) lb.length c2 := (hu 1 rfl).trans e1
                have hk := Lib.hid (fun w1 (h : Below ω.heap.size ω w1) => hK (.slice (some bd) lb.length c2) w1 rfl h)
                clear hK hu hc
                go_simp
                exact hk.out _ (Below.refl _ _)
              · refine calm_step_guard (g := 24) (b := false) (d := 40) rfl rfl (fun a w hc => hc 24 40 rfl rfl) fun a ω κ hb hu hc hK => ?_
                have h5 : a.tmps[5]?.getD undef = .int .i64 (j : Int) := (hu 5 rfl).trans e5
                have hk := Lib.hid (fun w1 (h : Below ω.heap.size ω w1) => hK (.int .i64 (j : Int)) w1 rfl h)
                clear hK hu hc
                go_simp
                exact hk.out _ (Below.refl _ _)
              · refine calm_step_guard (g := 24) (b := false) (d := 40) rfl rfl (fun a w hc => hc 24 40 rfl rfl) fun a ω κ hb hu hc hK => ?_
                have h46 : a.tmps[46]?.getD undef = .slice (some bd) lb.length c2 := hc 30 46 rfl rfl
                have h47 : a.tmps[47]?.getD undef = .int .i64 (j : Int) := hc 31 47 rfl rfl
                have hk := Lib.hid (fun w1 (h : Below ω.heap.size ω w1) => hK (.pointer (some (bd.add (j * 3)))) w1 rfl h)
                clear hK hu hc
                go_simp
                exact hk.out _ (Below.refl _ _)
              · refine calm_step_guard (g := 24) (b := false) (d := 40) rfl rfl (fun a w hc => hc 24 40 rfl rfl) fun a ω κ hb hu hc hK => ?_
                have h48 : a.tmps[48]?.getD undef = .pointer (some (bd.add (j * 3))) := hc 32 48 rfl rfl
                have hk := Lib.hid (fun w1 (h : Below ω.heap.size ω w1) => hK (.pointer (some ⟨(bd.add (j * 3)).block, (bd.add (j * 3)).off + 2, none⟩)) w1 rfl h)
                clear hK hu hc
                go_simp
                exact hk.out _ (Below.refl _ _)
              · refine calm_step_guard (g := 24) (b := false) (d := 40) rfl rfl (fun a w hc => hc 24 40 rfl rfl) fun a ω κ hb hu hc hK => ?_
                have h49 : a.tmps[49]?.getD undef = .pointer (some ⟨(bd.add (j * 3)).block, (bd.add (j * 3)).off + 2, none⟩) := hc 33 49 rfl rfl
                have hk := Lib.hid (fun w1 (h : Below ω.heap.size ω w1) => hK (.slice yA yl.length yc) w1 rfl h)
                clear hK hu hc
                obtain ⟨p0, p1, p2, q0, q1, q2⟩ := hC.out ω hb
                go_simp
                exact hk.out _ (Below.refl _ _)
              · refine calm_step_guard (g := 24) (b := false) (d := 40) rfl rfl (fun a w hc => hc 24 40 rfl rfl) fun a ω κ hb hu hc hK => ?_
                have h45 : a.tmps[45]?.getD undef = .slice xA xl.length xc := hc 29 45 rfl rfl
                have h50 : a.tmps[50]?.getD undef = .slice yA yl.length yc := hc 34 50 rfl rfl
                have hk := Lib.hid (fun w1 (h : Below ω.heap.size ω w1) => hK (.bool true) w1 rfl h)
                clear hK hu hc
                go_simp
                go_at_call 24
                refine (hS.out ω hb).mono ?_
                rintro e w8 ⟨rfl, hb8⟩
                rw [hs.out]
                exact hk.out _ hb8
              · refine calm_step_guard (g := 24) (b := false) (d := 40) rfl rfl (fun a w hc => hc 24 40 rfl rfl) fun a ω κ hb hu hc hK => ?_
                have h51 : a.tmps[51]?.getD undef = .bool true := hc 35 51 rfl rfl
                have hk := Lib.hid (fun w1 (h : Below ω.heap.size ω w1) => hK (.bool false) w1 rfl h)
                clear hK hu hc
                go_simp
                exact hk.out _ (Below.refl _ _)
              · refine calm_step rfl fun a ω κ hb hu hc hK => ?_
                have h40 : a.tmps[40]?.getD undef = .bool false := hc 24 40 rfl rfl
                have h52 : a.tmps[52]?.getD undef = .bool false := hc 36 52 rfl rfl
                have hk := Lib.hid (fun w1 (h : Below ω.heap.size ω w1) => hK (.bool false) w1 rfl h)
                clear hK hu hc
                go_simp
                exact hk.out _ (Below.refl _ _)
              · intro a1 w1 hb1 hu1 hsz1 hdf1 hc1
                have ha0 := hha0.out
                subst ha0
                have he := act_patch (n := 55) [false, false, false, false, false, false, false, false, false, false, false, false, false, false, false, false, true, true, true, true, true, true, true, true, true, true, true, true, true, true, true, true, true, true, true, true, true, true, true, true, true, true, true, true, true, true, true, true, true, true, true, true, true, true, false] rfl (by kernel_rfl) hu1 hsz1 hdf1
                simp only [patch, cond_true, cond_false, Nat.reduceAdd] at he
                have hkn53 : a1.tmps[53]?.getD undef = .bool false := hc1 37 53 rfl
                have hL7 := Lib.hid (hB.out w1 hb1)
                clear hb1 hu1 hsz1 hdf1 hc1 hz0 hha0 e0 e1 e5
                rw [he]
                clear he
                rw [hkn53]
                clear hkn53
                generalize a1.tmps[16]?.getD undef = x16 at *
                generalize a1.tmps[17]?.getD undef = x17 at *
                generalize a1.tmps[18]?.getD undef = x18 at *
                generalize a1.tmps[19]?.getD undef = x19 at *
                generalize a1.tmps[20]?.getD undef = x20 at *
                generalize a1.tmps[21]?.getD undef = x21 at *
                generalize a1.tmps[22]?.getD undef = x22 at *
                generalize a1.tmps[23]?.getD undef = x23 at *
                generalize a1.tmps[24]?.getD undef = x24 at *
                generalize a1.tmps[25]?.getD undef = x25 at *
                generalize a1.tmps[26]?.getD undef = x26 at *
                generalize a1.tmps[27]?.getD undef = x27 at *
                generalize a1.tmps[28]?.getD undef = x28 at *
                generalize a1.tmps[29]?.getD undef = x29 at *
                generalize a1.tmps[30]?.getD undef = x30 at *
                generalize a1.tmps[31]?.getD undef = x31 at *
                generalize a1.tmps[32]?.getD undef = x32 at *
                generalize a1.tmps[33]?.getD undef = x33 at *
                generalize a1.tmps[34]?.getD undef = x34 at *
                generalize a1.tmps[35]?.getD undef = x35 at *
                generalize a1.tmps[36]?.getD undef = x36 at *
                generalize a1.tmps[37]?.getD undef = x37 at *
                generalize a1.tmps[38]?.getD undef = x38 at *
                generalize a1.tmps[39]?.getD undef = x39 at *
                generalize a1.tmps[40]?.getD undef = x40 at *
                generalize a1.tmps[41]?.getD undef = x41 at *
                generalize a1.tmps[42]?.getD undef = x42 at *
                generalize a1.tmps[43]?.getD undef = x43 at *
                generalize a1.tmps[44]?.getD undef = x44 at *
                generalize a1.tmps[45]?.getD undef = x45 at *
                generalize a1.tmps[46]?.getD undef = x46 at *
                generalize a1.tmps[47]?.getD undef = x47 at *
                generalize a1.tmps[48]?.getD undef = x48 at *
                generalize a1.tmps[49]?.getD undef = x49 at *
                generalize a1.tmps[50]?.getD undef = x50 at *
                generalize a1.tmps[51]?.getD undef = x51 at *
                generalize a1.tmps[52]?.getD undef = x52 at *
                go_wp2
                go_roundw
                case rel => exact ⟨j + 1, by go_num, by omega, hz.out, hL7.out⟩
                case measure => simp [Go.RowKit.intOf]; omega
          · have hz : Hid (sameB la lb = false) := hno.out (fun e => by injection e with _ e; injection e with e _; exact e2 e)
            have d1 : (xh != xh) = false := by simp
            have d2 : (xo != yo) = true := by simpa using e2
            clear e2
            generalize ha0 : Act.mk _ _ = a0
            have e0 : a0.tmps[0]?.getD undef = .slice (some ad) la.length c1 := by rw [← ha0]; rfl
            have e1 : a0.tmps[1]?.getD undef = .slice (some bd) lb.length c2 := by rw [← ha0]; rfl
            have e5 : a0.tmps[5]?.getD undef = .int .i64 (j : Int) := by rw [← ha0]; rfl
            have hz0 : a0.tmps.size = 55 := by rw [← ha0]; rfl
            have hha0 := Lib.hid ha0
            clear ha0
            refine wp_region_calm (fun jx_ => match jx_ with | 0 => SRel.is (.slice (some ad) la.length c1) | 1 => SRel.is (.int .i64 (j : Int)) | 2 => SRel.is (.pointer (some (ad.add (j * 3)))) | 3 => SRel.is (.pointer (some (ad.add (j * 3)))) | 4 => SRel.is (.int .i64 xh) | 5 => SRel.is (.slice (some bd) lb.length c2) | 6 => SRel.is (.int .i64 (j : Int)) | 7 => SRel.is (.pointer (some (bd.add (j * 3)))) | 8 => SRel.is (.pointer (some (bd.add (j * 3)))) | 9 => SRel.is (.int .i64 xh) | 10 => SRel.is (.bool false) | 11 => SRel.is (.bool false) | 12 => SRel.is (.slice (some ad) la.length c1) | 13 => SRel.is (.int .i64 (j : Int)) | 14 => SRel.is (.pointer (some (ad.add (j * 3)))) | 15 => SRel.is (.pointer (some ⟨(ad.add (j * 3)).block, (ad.add (j * 3)).off + 1, none⟩)) | 16 => SRel.is (.int .i64 xo) | 17 => SRel.is (.slice (some bd) lb.length c2) | 18 => SRel.is (.int .i64 (j : Int)) | 19 => SRel.is (.pointer (some (bd.add (j * 3)))) | 20 => SRel.is (.pointer (some ⟨(bd.add (j * 3)).block, (bd.add (j * 3)).off + 1, none⟩)) | 21 => SRel.is (.int .i64 yo) | 22 => SRel.is (.bool true) | 23 => SRel.is (.bool true) | 24 => SRel.is (.bool true) | 25 => SRel.any | 26 => SRel.any | 27 => SRel.any | 28 => SRel.any | 29 => SRel.any | 30 => SRel.any | 31 => SRel.any | 32 => SRel.any | 33 => SRel.any | 34 => SRel.any | 35 => SRel.any | 36 => SRel.any | 37 => SRel.is (.bool true) | _ => SRel.any) (by kernel_rfl) (by kernel_rfl) (by kernel_rfl) (slotsOk_of hz0 (by kernel_rfl)) ⟨?_, ?_, ?_, ?_, ?_, ?_, ?_, ?_, ?_, ?_, ?_, ?_, ?_, ?_, ?_, ?_, ?_, ?_, ?_, ?_, ?_, ?_, ?_, ?_, ?_, ?_, ?_, ?_, ?_, ?_, ?_, ?_, ?_, ?_, ?_, ?_, ?_, ?_, trivial⟩ ?_
            · refine calm_step rfl fun a ω κ hb hu hc hK => ?_
              have h0 : a.tmps[0]?.getD undef = .slice (some ad) la.length c1 := (hu 0 rfl).trans e0
              have hk := Lib.hid (fun w1 (h : Below ω.heap.size ω w1) => hK (.slice (some ad) la.length c1) w1 rfl h)
              clear hK hu hc
              go_simp
              exact hk.out _ (Below.refl _ _)
            · refine calm_step rfl fun a ω κ hb hu hc hK => ?_
              have h5 : a.tmps[5]?.getD undef = .int .i64 (j : Int) := (hu 5 rfl).trans e5
              have hk := Lib.hid (fun w1 (h : Below ω.heap.size ω w1) => hK (.int .i64 (j : Int)) w1 rfl h)
              clear hK hu hc
              go_simp
              exact hk.out _ (Below.refl _ _)
            · refine calm_step rfl fun a ω κ hb hu hc hK => ?_
              have h16 : a.tmps[16]?.getD undef = .slice (some ad) la.length c1 := hc 0 16 rfl rfl
              have h17 : a.tmps[17]?.getD undef = .int .i64 (j : Int) := hc 1 17 rfl rfl
              have hk := Lib.hid (fun w1 (h : Below ω.heap.size ω w1) => hK (.pointer (some (ad.add (j * 3)))) w1 rfl h)
              clear hK hu hc
              go_simp
              exact hk.out _ (Below.refl _ _)
            · refine calm_step rfl fun a ω κ hb hu hc hK => ?_
              have h18 : a.tmps[18]?.getD undef = .pointer (some (ad.add (j * 3))) := hc 2 18 rfl rfl
              have hk := Lib.hid (fun w1 (h : Below ω.heap.size ω w1) => hK (.pointer (some (ad.add (j * 3)))) w1 rfl h)
              clear hK hu hc
              go_simp
              exact hk.out _ (Below.refl _ _)
            · refine calm_step rfl fun a ω κ hb hu hc hK => ?_
              have h19 : a.tmps[19]?.getD undef = .pointer (some (ad.add (j * 3))) := hc 3 19 rfl rfl
              have hk := Lib.hid (fun w1 (h : Below ω.heap.size ω w1) => hK (.int .i64 xh) w1 rfl h)
              clear hK hu hc
              obtain ⟨p0, p1, p2, q0, q1, q2⟩ := hC.out ω hb
              go_simp
              exact hk.out _ (Below.refl _ _)
            · refine calm_step rfl fun a ω κ hb hu hc hK => ?_
              have h1 : a.tmps[1]?.getD undef = .slice (some bd) lb.length c2 := (hu 1 rfl).trans e1
              have hk := Lib.hid (fun w1 (h : Below ω.heap.size ω w1) => hK (.slice (some bd) lb.length c2) w1 rfl h)
              clear hK hu hc
              go_simp
              exact hk.out _ (Below.refl _ _)
            · refine calm_step rfl fun a ω κ hb hu hc hK => ?_
              have h5 : a.tmps[5]?.getD undef = .int .i64 (j : Int) := (hu 5 rfl).trans e5
              have hk := Lib.hid (fun w1 (h : Below ω.heap.size ω w1) => hK (.int .i64 (j : Int)) w1 rfl h)
              clear hK hu hc
              go_simp
              exact hk.out _ (Below.refl _ _)
            · refine calm_step rfl fun a ω κ hb hu hc hK => ?_
              have h21 : a.tmps[21]?.getD undef = .slice (some bd) lb.length c2 := hc 5 21 rfl rfl
              have h22 : a.tmps[22]?.getD undef = .int .i64 (j : Int) := hc 6 22 rfl rfl
              have hk := Lib.hid (fun w1 (h : Below ω.heap.size ω w1) => hK (.pointer (some (bd.add (j * 3)))) w1 rfl h)
              clear hK hu hc
              go_simp
              exact hk.out _ (Below.refl _ _)
            · refine calm_step rfl fun a ω κ hb hu hc hK => ?_
              have h23 : a.tmps[23]?.getD undef = .pointer (some (bd.add (j * 3))) := hc 7 23 rfl rfl
              have hk := Lib.hid (fun w1 (h : Below ω.heap.size ω w1) => hK (.pointer (some (bd.add (j * 3)))) w1 rfl h)
              clear hK hu hc
              go_simp
              exact hk.out _ (Below.refl _ _)
            · refine calm_step rfl fun a ω κ hb hu hc hK => ?_
              have h24 : a.tmps[24]?.getD undef = .pointer (some (bd.add (j * 3))) := hc 8 24 rfl rfl
              have hk := Lib.hid (fun w1 (h : Below ω.heap.size ω w1) => hK (.int .i64 xh) w1 rfl h)
              clear hK hu hc
              obtain ⟨p0, p1, p2, q0, q1, q2⟩ := hC.out ω hb
              go_simp
              exact hk.out _ (Below.refl _ _)
            · refine calm_step rfl fun a ω κ hb hu hc hK => ?_
              have h20 : a.tmps[20]?.getD undef = .int .i64 xh := hc 4 20 rfl rfl
              have h25 : a.tmps[25]?.getD undef = .int .i64 xh := hc 9 25 rfl rfl
              have hk := Lib.hid (fun w1 (h : Below ω.heap.size ω w1) => hK (.bool false) w1 rfl h)
              clear hK hu hc
              go_simp
              exact hk.out _ (Below.refl _ _)
            · refine calm_step rfl fun a ω κ hb hu hc hK => ?_
              have h26 : a.tmps[26]?.getD undef = .bool false := hc 10 26 rfl rfl
              have hk := Lib.hid (fun w1 (h : Below ω.heap.size ω w1) => hK (.bool false) w1 rfl h)
              clear hK hu hc
              go_simp
              exact hk.out _ (Below.refl _ _)
            · refine calm_step_guard (g := 11) (b := false) (d := 27) rfl rfl (fun a w hc => hc 11 27 rfl rfl) fun a ω κ hb hu hc hK => ?_
              have h0 : a.tmps[0]?.getD undef = .slice (some ad) la.length c1 := (hu 0 rfl).trans e0
              have hk := Lib.hid (fun w1 (h : Below ω.heap.size ω w1) => hK (.slice (some ad) la.length c1) w1 rfl h)
              clear hK hu hc
              go_simp
              exact hk.out _ (Below.refl _ _)
            · refine calm_step_guard (g := 11) (b := false) (d := 27) rfl rfl (fun a w hc => hc 11 27 rfl rfl) fun a ω κ hb hu hc hK => ?_
              have h5 : a.tmps[5]?.getD undef = .int .i64 (j : Int) := (hu 5 rfl).trans e5
              have hk := Lib.hid (fun w1 (h : Below ω.heap.size ω w1) => hK (.int .i64 (j : Int)) w1 rfl h)
              clear hK hu hc
              go_simp
              exact hk.out _ (Below.refl _ _)
            · refine calm_step_guard (g := 11) (b := false) (d := 27) rfl rfl (fun a w hc => hc 11 27 rfl rfl) fun a ω κ hb hu hc hK => ?_
              have h28 : a.tmps[28]?.getD undef = .slice (some ad) la.length c1 := hc 12 28 rfl rfl
              have h29 : a.tmps[29]?.getD undef = .int .i64 (j : Int) := hc 13 29 rfl rfl
              have hk := Lib.hid (fun w1 (h : Below ω.heap.size ω w1) => hK (.pointer (some (ad.add (j * 3)))) w1 rfl h)
              clear hK hu hc
              go_simp
              exact hk.out _ (Below.refl _ _)
            · refine calm_step_guard (g := 11) (b := false) (d := 27) rfl rfl (fun a w hc => hc 11 27 rfl rfl) fun a ω κ hb hu hc hK => ?_
              have h30 : a.tmps[30]?.getD undef = .pointer (some (ad.add (j * 3))) := hc 14 30 rfl rfl
              have hk := Lib.hid (fun w1 (h : Below ω.heap.size ω w1) => hK (.pointer (some ⟨(ad.add (j * 3)).block, (ad.add (j * 3)).off + 1, none⟩)) w1 rfl h)
              clear hK hu hc
              go_simp
              exact hk.out _ (Below.refl _ _)
            · refine calm_step_guard (g := 11) (b := false) (d := 27) rfl rfl (fun a w hc => hc 11 27 rfl rfl) fun a ω κ hb hu hc hK => ?_
              have h31 : a.tmps[31]?.getD undef = .pointer (some ⟨(ad.add (j * 3)).block, (ad.add (j * 3)).off + 1, none⟩) := hc 15 31 rfl rfl
              have hk := Lib.hid (fun w1 (h : Below ω.heap.size ω w1) => hK (.int .i64 xo) w1 rfl h)
              clear hK hu hc
              obtain ⟨p0, p1, p2, q0, q1, q2⟩ := hC.out ω hb
              go_simp
              exact hk.out _ (Below.refl _ _)
            · refine calm_step_guard (g := 11) (b := false) (d := 27) rfl rfl (fun a w hc => hc 11 27 rfl rfl) fun a ω κ hb hu hc hK => ?_
              have h1 : a.tmps[1]?.getD undef = .slice (some bd) lb.length c2 := (hu 1 rfl).trans e1
              have hk := Lib.hid (fun w1 (h : Below ω.heap.size ω w1) => hK (.slice (some bd) lb.length c2) w1 rfl h)
              clear hK hu hc
              go_simp
              exact hk.out _ (Below.refl _ _)
            · refine calm_step_guard (g := 11) (b := false) (d := 27) rfl rfl (fun a w hc => hc 11 27 rfl rfl) fun a ω κ hb hu hc hK => ?_
              have h5 : a.tmps[5]?.getD undef = .int .i64 (j : Int) := (hu 5 rfl).trans e5
              have hk := Lib.hid (fun w1 (h : Below ω.heap.size ω w1) => hK (.int .i64 (j : Int)) w1 rfl h)
              clear hK hu hc
              go_simp
              exact hk.out _ (Below.refl _ _)
            · refine calm_step_guard (g := 11) (b := false) (d := 27) rfl rfl (fun a w hc => hc 11 27 rfl rfl) fun a ω κ hb hu hc hK => ?_
              have h33 : a.tmps[33]?.getD undef = .slice (some bd) lb.length c2 := hc 17 33 rfl rfl
              have h34 : a.tmps[34]?.getD undef = .int .i64 (j : Int) := hc 18 34 rfl rfl
              have hk := Lib.hid (fun w1 (h : Below ω.heap.size ω w1) => hK (.pointer (some (bd.add (j * 3)))) w1 rfl h)
              clear hK hu hc
              go_simp
              exact hk.out _ (Below.refl _ _)
            · refine calm_step_guard (g := 11) (b := false) (d := 27) rfl rfl (fun a w hc => hc 11 27 rfl rfl) fun a ω κ hb hu hc hK => ?_
              have h35 : a.tmps[35]?.getD undef = .pointer (some (bd.add (j * 3))) := hc 19 35 rfl rfl
              have hk := Lib.hid (fun w1 (h : Below ω.heap.size ω w1) => hK (.pointer (some ⟨(bd.add (j * 3)).block, (bd.add (j * 3)).off + 1, none⟩)) w1 rfl h)
              clear hK hu hc
              go_simp
              exact hk.out _ (Below.refl _ _)
            · refine calm_step_guard (g := 11) (b := false) (d := 27) rfl rfl (fun a w hc => hc 11 27 rfl rfl) fun a ω κ hb hu hc hK => ?_
              have h36 : a.tmps[36]?.getD undef = .pointer (some ⟨(bd.add (j * 3)).block, (bd.add (j * 3)).off + 1, none⟩) := hc 20 36 rfl rfl
              have hk := Lib.hid (fun w1 (h : Below ω.heap.size ω w1) => hK (.int .i64 yo) w1 rfl h)
              clear hK hu hc
              obtain ⟨p0, p1, p2, q0, q1, q2⟩ := hC.out ω hb
              go_simp
              exact hk.out _ (Below.refl _ _)
            · refine calm_step_guard (g := 11) (b := false) (d := 27) rfl rfl (fun a w hc => hc 11 27 rfl rfl) fun a ω κ hb hu hc hK => ?_
              have h32 : a.tmps[32]?.getD undef = .int .i64 xo := hc 16 32 rfl rfl
              have h37 : a.tmps[37]?.getD undef = .int .i64 yo := hc 21 37 rfl rfl
              have hk := Lib.hid (fun w1 (h : Below ω.heap.size ω w1) => hK (.bool true) w1 rfl h)
              clear hK hu hc
              go_simp
              exact hk.out _ (Below.refl _ _)
            · refine calm_step rfl fun a ω κ hb hu hc hK => ?_
              have h27 : a.tmps[27]?.getD undef = .bool false := hc 11 27 rfl rfl
              have h38 : a.tmps[38]?.getD undef = .bool true := hc 22 38 rfl rfl
              have hk := Lib.hid (fun w1 (h : Below ω.heap.size ω w1) => hK (.bool true) w1 rfl h)
              clear hK hu hc
              go_simp
              exact hk.out _ (Below.refl _ _)
            · refine calm_step rfl fun a ω κ hb hu hc hK => ?_
              have h39 : a.tmps[39]?.getD undef = .bool true := hc 23 39 rfl rfl
              have hk := Lib.hid (fun w1 (h : Below ω.heap.size ω w1) => hK (.bool true) w1 rfl h)
              clear hK hu hc
              go_simp
              exact hk.out _ (Below.refl _ _)
            · exact calm_step_skip (g := 24) (b := false) (d := 40) rfl rfl (fun a w hc => hc 24 40 rfl rfl) (fun _ => trivial)
            · exact calm_step_skip (g := 24) (b := false) (d := 40) rfl rfl (fun a w hc => hc 24 40 rfl rfl) (fun _ => trivial)
            · exact calm_step_skip (g := 24) (b := false) (d := 40) rfl rfl (fun a w hc => hc 24 40 rfl rfl) (fun _ => trivial)
            · exact calm_step_skip (g := 24) (b := false) (d := 40) rfl rfl (fun a w hc => hc 24 40 rfl rfl) (fun _ => trivial)
            · exact calm_step_skip (g := 24) (b := false) (d := 40) rfl rfl (fun a w hc => hc 24 40 rfl rfl) (fun _ => trivial)
            · exact calm_step_skip (g := 24) (b := false) (d := 40) rfl rfl (fun a w hc => hc 24 40 rfl rfl) (fun _ => trivial)
            · exact calm_step_skip (g := 24) (b := false) (d := 40) rfl rfl (fun a w hc => hc 24 40 rfl rfl) (fun _ => trivial)
            · exact calm_step_skip (g := 24) (b := false) (d := 40) rfl rfl (fun a w hc => hc 24 40 rfl rfl) (fun _ => trivial)
            · exact calm_step_skip (g := 24) (b := false) (d := 40) rfl rfl (fun a w hc => hc 24 40 rfl rfl) (fun _ => trivial)
            · exact calm_step_skip (g := 24) (b := false) (d := 40) rfl rfl (fun a w hc => hc 24 40 rfl rfl) (fun _ => trivial)
            · exact calm_step_skip (g := 24) (b := false) (d := 40) rfl rfl (fun a w hc => hc 24 40 rfl rfl) (fun _ => trivial)
            · exact calm_step_skip (g := 24) (b := false) (d := 40) rfl rfl (fun a w hc => hc 24 40 rfl rfl) (fun _ => trivial)
            · refine calm_step rfl fun a ω κ hb hu hc hK => ?_
              have h40 : a.tmps[40]?.getD undef = .bool true := hc 24 40 rfl rfl
              have h52 : (SRel.any).p (a.tmps[52]?.getD undef) ω := hc 36 52 rfl rfl
              have hk := Lib.hid (fun w1 (h : Below ω.heap.size ω w1) => hK (.bool true) w1 rfl h)
              clear hK hu hc
              go_simp
              exact hk.out _ (Below.refl _ _)
            · intro a1 w1 hb1 hu1 hsz1 hdf1 hc1
              have ha0 := hha0.out
              subst ha0
              have he := act_patch (n := 55) [false, false, false, false, false, false, false, false, false, false, false, false, false, false, false, false, true, true, true, true, true, true, true, true, true, true, true, true, true, true, true, true, true, true, true, true, true, true, true, true, true, true, true, true, true, true, true, true, true, true, true, true, true, true, false] rfl (by kernel_rfl) hu1 hsz1 hdf1
              simp only [patch, cond_true, cond_false, Nat.reduceAdd] at he
              have hkn53 : a1.tmps[53]?.getD undef = .bool true := hc1 37 53 rfl
              have hL7 := Lib.hid (hB.out w1 hb1)
              clear hb1 hu1 hsz1 hdf1 hc1 hz0 hha0 e0 e1 e5
              rw [he]
              clear he
              rw [hkn53]
              clear hkn53
              generalize a1.tmps[16]?.getD undef = x16 at *
              generalize a1.tmps[17]?.getD undef = x17 at *
              generalize a1.tmps[18]?.getD undef = x18 at *
              generalize a1.tmps[19]?.getD undef = x19 at *
              generalize a1.tmps[20]?.getD undef = x20 at *
              generalize a1.tmps[21]?.getD undef = x21 at *
              generalize a1.tmps[22]?.getD undef = x22 at *
              generalize a1.tmps[23]?.getD undef = x23 at *
              generalize a1.tmps[24]?.getD undef = x24 at *
              generalize a1.tmps[25]?.getD undef = x25 at *
              generalize a1.tmps[26]?.getD undef = x26 at *
              generalize a1.tmps[27]?.getD undef = x27 at *
              generalize a1.tmps[28]?.getD undef = x28 at *
              generalize a1.tmps[29]?.getD undef = x29 at *
              generalize a1.tmps[30]?.getD undef = x30 at *
              generalize a1.tmps[31]?.getD undef = x31 at *
              generalize a1.tmps[32]?.getD undef = x32 at *
              generalize a1.tmps[33]?.getD undef = x33 at *
              generalize a1.tmps[34]?.getD undef = x34 at *
              generalize a1.tmps[35]?.getD undef = x35 at *
              generalize a1.tmps[36]?.getD undef = x36 at *
              generalize a1.tmps[37]?.getD undef = x37 at *
              generalize a1.tmps[38]?.getD undef = x38 at *
              generalize a1.tmps[39]?.getD undef = x39 at *
              generalize a1.tmps[40]?.getD undef = x40 at *
              generalize a1.tmps[41]?.getD undef = x41 at *
              generalize a1.tmps[42]?.getD undef = x42 at *
              generalize a1.tmps[43]?.getD undef = x43 at *
              generalize a1.tmps[44]?.getD undef = x44 at *
              generalize a1.tmps[45]?.getD undef = x45 at *
              generalize a1.tmps[46]?.getD undef = x46 at *
              generalize a1.tmps[47]?.getD undef = x47 at *
              generalize a1.tmps[48]?.getD undef = x48 at *
              generalize a1.tmps[49]?.getD undef = x49 at *
              generalize a1.tmps[50]?.getD undef = x50 at *
              generalize a1.tmps[51]?.getD undef = x51 at *
              generalize a1.tmps[52]?.getD undef = x52 at *
              go_wp2
              go_ret
              exact ⟨by rw [hz.out]; rfl, hL7.out⟩
        · have hz : Hid (sameB la lb = false) := hno.out (fun e => by injection e with e _; exact e1 e)
          have d1 : (xh != yh) = true := by simpa using e1
          clear e1
          generalize ha0 : Act.mk _ _ = a0
          have e0 : a0.tmps[0]?.getD undef = .slice (some ad) la.length c1 := by rw [← ha0]; rfl
          have e1 : a0.tmps[1]?.getD undef = .slice (some bd) lb.length c2 := by rw [← ha0]; rfl
          have e5 : a0.tmps[5]?.getD undef = .int .i64 (j : Int) := by rw [← ha0]; rfl
          have hz0 : a0.tmps.size = 55 := by rw [← ha0]; rfl
          have hha0 := Lib.hid ha0
          clear ha0
          refine wp_region_calm (fun jx_ => match jx_ with | 0 => SRel.is (.slice (some ad) la.length c1) | 1 => SRel.is (.int .i64 (j : Int)) | 2 => SRel.is (.pointer (some (ad.add (j * 3)))) | 3 => SRel.is (.pointer (some (ad.add (j * 3)))) | 4 => SRel.is (.int .i64 xh) | 5 => SRel.is (.slice (some bd) lb.length c2) | 6 => SRel.is (.int .i64 (j : Int)) | 7 => SRel.is (.pointer (some (bd.add (j * 3)))) | 8 => SRel.is (.pointer (some (bd.add (j * 3)))) | 9 => SRel.is (.int .i64 yh) | 10 => SRel.is (.bool true) | 11 => SRel.is (.bool true) | 12 => SRel.any | 13 => SRel.any | 14 => SRel.any | 15 => SRel.any | 16 => SRel.any | 17 => SRel.any | 18 => SRel.any | 19 => SRel.any | 20 => SRel.any | 21 => SRel.any | 22 => SRel.any | 23 => SRel.is (.bool true) | 24 => SRel.is (.bool true) | 25 => SRel.any | 26 => SRel.any | 27 => SRel.any | 28 => SRel.any | 29 => SRel.any | 30 => SRel.any | 31 => SRel.any | 32 => SRel.any | 33 => SRel.any | 34 => SRel.any | 35 => SRel.any | 36 => SRel.any | 37 => SRel.is (.bool true) | _ => SRel.any) (by kernel_rfl) (by kernel_rfl) (by kernel_rfl) (slotsOk_of hz0 (by kernel_rfl)) ⟨?_, ?_, ?_, ?_, ?_, ?_, ?_, ?_, ?_, ?_, ?_, ?_, ?_, ?_, ?_, ?_, ?_, ?_, ?_, ?_, ?_, ?_, ?_, ?_, ?_, ?_, ?_, ?_, ?_, ?_, ?_, ?_, ?_, ?_, ?_, ?_, ?_, ?_, trivial⟩ ?_
          · refine calm_step rfl fun a ω κ hb hu hc hK => ?_
            have h0 : a.tmps[0]?.getD undef = .slice (some ad) la.length c1 := (hu 0 rfl).trans e0
            have hk := Lib.hid (fun w1 (h : Below ω.heap.size ω w1) => hK (.slice (some ad) la.length c1) w1 rfl h)
            clear hK hu hc
            go_simp
            exact hk.out _ (Below.refl _ _)
          · refine calm_step rfl fun a ω κ hb hu hc hK => ?_
            have h5 : a.tmps[5]?.getD undef = .int .i64 (j : Int) := (hu 5 rfl).trans e5
            have hk := Lib.hid (fun w1 (h : Below ω.heap.size ω w1) => hK (.int .i64 (j : Int)) w1 rfl h)
            clear hK hu hc
            go_simp
            exact hk.out _ (Below.refl _ _)
          · refine calm_step rfl fun a ω κ hb hu hc hK => ?_
            have h16 : a.tmps[16]?.getD undef = .slice (some ad) la.length c1 := hc 0 16 rfl rfl
            have h17 : a.tmps[17]?.getD undef = .int .i64 (j : Int) := hc 1 17 rfl rfl
            have hk := Lib.hid (fun w1 (h : Below ω.heap.size ω w1) => hK (.pointer (some (ad.add (j * 3)))) w1 rfl h)
            clear hK hu hc
            go_simp
            exact hk.out _ (Below.refl _ _)
          · refine calm_step rfl fun a ω κ hb hu hc hK => ?_
            have h18 : a.tmps[18]?.getD undef = .pointer (some (ad.add (j * 3))) := hc 2 18 rfl rfl
            have hk := Lib.hid (fun w1 (h : Below ω.heap.size ω w1) => hK (.pointer (some (ad.add (j * 3)))) w1 rfl h)
            clear hK hu hc
            go_simp
            exact hk.out _ (Below.refl _ _)
          · refine calm_step rfl fun a ω κ hb hu hc hK => ?_
            have h19 : a.tmps[19]?.getD undef = .pointer (some (ad.add (j * 3))) := hc 3 19 rfl rfl
            have hk := Lib.hid (fun w1 (h : Below ω.heap.size ω w1) => hK (.int .i64 xh) w1 rfl h)
            clear hK hu hc
            obtain ⟨p0, p1, p2, q0, q1, q2⟩ := hC.out ω hb
            go_simp
            exact hk.out _ (Below.refl _ _)
          · refine calm_step rfl fun a ω κ hb hu hc hK => ?_
            have h1 : a.tmps[1]?.getD undef = .slice (some bd) lb.length c2 := (hu 1 rfl).trans e1
            have hk := Lib.hid (fun w1 (h : Below ω.heap.size ω w1) => hK (.slice (some bd) lb.length c2) w1 rfl h)
            clear hK hu hc
            go_simp
            exact hk.out _ (Below.refl _ _)
          · refine calm_step rfl fun a ω κ hb hu hc hK => ?_
            have h5 : a.tmps[5]?.getD undef = .int .i64 (j : Int) := (hu 5 rfl).trans e5
            have hk := Lib.hid (fun w1 (h : Below ω.heap.size ω w1) => hK (.int .i64 (j : Int)) w1 rfl h)
            clear hK hu hc
            go_simp
            exact hk.out _ (Below.refl _ _)
          · refine calm_step rfl fun a ω κ hb hu hc hK => ?_
            have h21 : a.tmps[21]?.getD undef = .slice (some bd) lb.length c2 := hc 5 21 rfl rfl
            have h22 : a.tmps[22]?.getD undef = .int .i64 (j : Int) := hc 6 22 rfl rfl
            have hk := Lib.hid (fun w1 (h : Below ω.heap.size ω w1) => hK (.pointer (some (bd.add (j * 3)))) w1 rfl h)
            clear hK hu hc
            go_simp
            exact hk.out _ (Below.refl _ _)
          · refine calm_step rfl fun a ω κ hb hu hc hK => ?_
            have h23 : a.tmps[23]?.getD undef = .pointer (some (bd.add (j * 3))) := hc 7 23 rfl rfl
            have hk := Lib.hid (fun w1 (h : Below ω.heap.size ω w1) => hK (.pointer (some (bd.add (j * 3)))) w1 rfl h)
            clear hK hu hc
            go_simp
            exact hk.out _ (Below.refl _ _)
          · refine calm_step rfl fun a ω κ hb hu hc hK => ?_
            have h24 : a.tmps[24]?.getD undef = .pointer (some (bd.add (j * 3))) := hc 8 24 rfl rfl
            have hk := Lib.hid (fun w1 (h : Below ω.heap.size ω w1) => hK (.int .i64 yh) w1 rfl h)
            clear hK hu hc
            obtain ⟨p0, p1, p2, q0, q1, q2⟩ := hC.out ω hb
            go_simp
            exact hk.out _ (Below.refl _ _)
          · refine calm_step rfl fun a ω κ hb hu hc hK => ?_
            have h20 : a.tmps[20]?.getD undef = .int .i64 xh := hc 4 20 rfl rfl
            have h25 : a.tmps[25]?.getD undef = .int .i64 yh := hc 9 25 rfl rfl
            have hk := Lib.hid (fun w1 (h : Below ω.heap.size ω w1) => hK (.bool true) w1 rfl h)
            clear hK hu hc
            go_simp
            exact hk.out _ (Below.refl _ _)
          · refine calm_step rfl fun a ω κ hb hu hc hK => ?_
            have h26 : a.tmps[26]?.getD undef = .bool true := hc 10 26 rfl rfl
            have hk := Lib.hid (fun w1 (h : Below ω.heap.size ω w1) => hK (.bool true) w1 rfl h)
            clear hK hu hc
            go_simp
            exact hk.out _ (Below.refl _ _)
          · exact calm_step_skip (g := 11) (b := false) (d := 27) rfl rfl (fun a w hc => hc 11 27 rfl rfl) (fun _ => trivial)
          · exact calm_step_skip (g := 11) (b := false) (d := 27) rfl rfl (fun a w hc => hc 11 27 rfl rfl) (fun _ => trivial)
          · exact calm_step_skip (g := 11) (b := false) (d := 27) rfl rfl (fun a w hc => hc 11 27 rfl rfl) (fun _ => trivial)
          · exact calm_step_skip (g := 11) (b := false) (d := 27) rfl rfl (fun a w hc => hc 11 27 rfl rfl) (fun _ => trivial)
          · exact calm_step_skip (g := 11) (b := false) (d := 27) rfl rfl (fun a w hc => hc 11 27 rfl rfl) (fun _ => trivial)
          · exact calm_step_skip (g := 11) (b := false) (d := 27) rfl rfl (fun a w hc => hc 11 27 rfl rfl) (fun _ => trivial)
          · exact calm_step_skip (g := 11) (b := false) (d := 27) rfl rfl (fun a w hc => hc 11 27 rfl rfl) (fun _ => trivial)
          · exact calm_step_skip (g := 11) (b := false) (d := 27) rfl rfl (fun a w hc => hc 11 27 rfl rfl) (fun _ => trivial)
          · exact calm_step_skip (g := 11) (b := false) (d := 27) rfl rfl (fun a w hc => hc 11 27 rfl rfl) (fun _ => trivial)
          · exact calm_step_skip (g := 11) (b := false) (d := 27) rfl rfl (fun a w hc => hc 11 27 rfl rfl) (fun _ => trivial)
          · exact calm_step_skip (g := 11) (b := false) (d := 27) rfl rfl (fun a w hc => hc 11 27 rfl rfl) (fun _ => trivial)
          · refine calm_step rfl fun a ω κ hb hu hc hK => ?_
            have h27 : a.tmps[27]?.getD undef = .bool true := hc 11 27 rfl rfl
            have h38 : (SRel.any).p (a.tmps[38]?.getD undef) ω := hc 22 38 rfl rfl
            have hk := Lib.hid (fun w1 (h : Below ω.heap.size ω w1) => hK (.bool true) w1 rfl h)
            clear hK hu hc
            go_simp
            exact hk.out _ (Below.refl _ _)
          · refine calm_step rfl fun a ω κ hb hu hc hK => ?_
            have h39 : a.tmps[39]?.getD undef = .bool true := hc 23 39 rfl rfl
            have hk := Lib.hid (fun w1 (h : Below ω.heap.size ω w1) => hK (.bool true) w1 rfl h)
            clear hK hu hc
            go_simp
            exact hk.out _ (Below.refl _ _)
          · exact calm_step_skip (g := 24) (b := false) (d := 40) rfl rfl (fun a w hc => hc 24 40 rfl rfl) (fun _ => trivial)
          · exact calm_step_skip (g := 24) (b := false) (d := 40) rfl rfl (fun a w hc => hc 24 40 rfl rfl) (fun _ => trivial)
          · exact calm_step_skip (g := 24) (b := false) (d := 40) rfl rfl (fun a w hc => hc 24 40 rfl rfl) (fun _ => trivial)
          · exact calm_step_skip (g := 24) (b := false) (d := 40) rfl rfl (fun a w hc => hc 24 40 rfl rfl) (fun _ => trivial)
          · exact calm_step_skip (g := 24) (b := false) (d := 40) rfl rfl (fun a w hc => hc 24 40 rfl rfl) (fun _ => trivial)
          · exact calm_step_skip (g := 24) (b := false) (d := 40) rfl rfl (fun a w hc => hc 24 40 rfl rfl) (fun _ => trivial)
          · exact calm_step_skip (g := 24) (b := false) (d := 40) rfl rfl (fun a w hc => hc 24 40 rfl rfl) (fun _ => trivial)
          · exact calm_step_skip (g := 24) (b := false) (d := 40) rfl rfl (fun a w hc => hc 24 40 rfl rfl) (fun _ => trivial)
          · exact calm_step_skip (g := 24) (b := false) (d := 40) rfl rfl (fun a w hc => hc 24 40 rfl rfl) (fun _ => trivial)
          · exact calm_step_skip (g := 24) (b := false) (d := 40) rfl rfl (fun a w hc => hc 24 40 rfl rfl) (fun _ => trivial)
          · exact calm_step_skip (g := 24) (b := false) (d := 40) rfl rfl (fun a w hc => hc 24 40 rfl rfl) (fun _ => trivial)
          · exact calm_step_skip (g := 24) (b := false) (d := 40) rfl rfl (fun a w hc => hc 24 40 rfl rfl) (fun _ => trivial)
          · refine calm_step rfl fun a ω κ hb hu hc hK => ?_
            have h40 : a.tmps[40]?.getD undef = .bool true := hc 24 40 rfl rfl
            have h52 : (SRel.any).p (a.tmps[52]?.getD undef) ω := hc 36 52 rfl rfl
            have hk := Lib.hid (fun w1 (h : Below ω.heap.size ω w1) => hK (.bool true) w1 rfl h)
            clear hK hu hc
            go_simp
            exact hk.out _ (Below.refl _ _)
          · intro a1 w1 hb1 hu1 hsz1 hdf1 hc1
            have ha0 := hha0.out
            subst ha0
            have he := act_patch (n := 55) [false, false, false, false, false, false, false, false, false, false, false, false, false, false, false, false, true, true, true, true, true, true, true, true, true, true, true, true, true, true, true, true, true, true, true, true, true, true, true, true, true, true, true, true, true, true, true, true, true, true, true, true, true, true, false] rfl (by kernel_rfl) hu1 hsz1 hdf1
            simp only [patch, cond_true, cond_false, Nat.reduceAdd] at he
            have hkn53 : a1.tmps[53]?.getD undef = .bool true := hc1 37 53 rfl
            have hL7 := Lib.hid (hB.out w1 hb1)
            clear hb1 hu1 hsz1 hdf1 hc1 hz0 hha0 e0 e1 e5
            rw [he]
            clear he
            rw [hkn53]
            clear hkn53
            generalize a1.tmps[16]?.getD undef = x16 at *
            generalize a1.tmps[17]?.getD undef = x17 at *
            generalize a1.tmps[18]?.getD undef = x18 at *
            generalize a1.tmps[19]?.getD undef = x19 at *
            generalize a1.tmps[20]?.getD undef = x20 at *
            generalize a1.tmps[21]?.getD undef = x21 at *
            generalize a1.tmps[22]?.getD undef = x22 at *
            generalize a1.tmps[23]?.getD undef = x23 at *
            generalize a1.tmps[24]?.getD undef = x24 at *
            generalize a1.tmps[25]?.getD undef = x25 at *
            generalize a1.tmps[26]?.getD undef = x26 at *
            generalize a1.tmps[27]?.getD undef = x27 at *
            generalize a1.tmps[28]?.getD undef = x28 at *
            generalize a1.tmps[29]?.getD undef = x29 at *
            generalize a1.tmps[30]?.getD undef = x30 at *
            generalize a1.tmps[31]?.getD undef = x31 at *
            generalize a1.tmps[32]?.getD undef = x32 at *
            generalize a1.tmps[33]?.getD undef = x33 at *
            generalize a1.tmps[34]?.getD undef = x34 at *
            generalize a1.tmps[35]?.getD undef = x35 at *
            generalize a1.tmps[36]?.getD undef = x36 at *
            generalize a1.tmps[37]?.getD undef = x37 at *
            generalize a1.tmps[38]?.getD undef = x38 at *
            generalize a1.tmps[39]?.getD undef = x39 at *
            generalize a1.tmps[40]?.getD undef = x40 at *
            generalize a1.tmps[41]?.getD undef = x41 at *
            generalize a1.tmps[42]?.getD undef = x42 at *
            generalize a1.tmps[43]?.getD undef = x43 at *
            generalize a1.tmps[44]?.getD undef = x44 at *
            generalize a1.tmps[45]?.getD undef = x45 at *
            generalize a1.tmps[46]?.getD undef = x46 at *
            generalize a1.tmps[47]?.getD undef = x47 at *
            generalize a1.tmps[48]?.getD undef = x48 at *
            generalize a1.tmps[49]?.getD undef = x49 at *
            generalize a1.tmps[50]?.getD undef = x50 at *
            generalize a1.tmps[51]?.getD undef = x51 at *
            generalize a1.tmps[52]?.getD undef = x52 at *
            go_wp2
            go_ret
            exact ⟨by rw [hz.out]; rfl, hL7.out⟩
  · have hlb : ((la.length : Int) != (lb.length : Int)) = true := by simpa using fun e => hlen (by omega)
    have hz := Lib.hid (sameB_len hlen)
    go_enter Try.func11, Try.ntmps11
    go_wp2
    go_ret
    exact ⟨by rw [hz.out]; rfl, Below.refl _ _⟩
end Go.Proofs.Ytakooljbkjnilaa
namespace Go.Proofs.Ytakooljbkjnilaa
open Go.ChangeShapes Go.WideShapes Go.ChangeAt Go.RowKit
set_option maxHeartbeats 1000000
set_option maxRecDepth 100000
attribute [local go_sem] kp_refl kp_alloc kp_setCell kp_drew kp_drewN row_new row_old rowAt_new rowAt_old

/-- What is had: objects in an own slice, whose attributes came in (below block n0). -/
structure HvO (n0 : Nat) (w : World) (v : Value) (l : List Hd) : Prop where
  own : w.ownsRow n0 45 3 v l.length (l.flatMap Hd.cells)
  body : ∀ x ∈ l, Ats w n0 x.A x.l ∧ x.l.length ≤ x.cap ∧ x.cap ≤ maxLen ∧ x.l.length ≤ 4398046511104
/-- Both, side by side. -/
structure KpAt (n0 : Nat) (w : World) (g bm : Nat) (v : Value) (most next : Int) (hs ks : List Hd) : Prop where
  st : StAt w g bm most next ks
  hv : HvO n0 w v hs
  ob : hs.map Hd.ob = ks.map Hd.ob
  sep : ∀ x ∈ ks, HdOk (fun k => (n0 ≤ k ∧ k < w.heap.size) ∧ some k ≠ v.ownBlock ∧ k ≠ g ∧ k ≠ bm) w x
  gn : n0 ≤ g ∧ some g ≠ v.ownBlock
  bn : n0 ≤ bm ∧ some bm ≠ v.ownBlock
  nx : ∀ x ∈ ks, x.h < next
  ln : (hs.length : Int) ≤ most
  mo : 1 ≤ most ∧ most ≤ 16
  nr : 1 ≤ next ∧ next ≤ 1073741824
theorem HvO.form {n0 : Nat} {w : World} {v : Value} {l : List Hd} (h : HvO n0 w v l) : ∃ A c, v = .slice A l.length c ∧ l.length ≤ c ∧ c ≤ maxLen := by
  rcases h.own.2 with ⟨h1, h2⟩ | ⟨g, cap, cur, h1, _, _, h2, h3, _⟩
  · exact ⟨_, 0, by rw [h1, h2], by omega, by unfold maxLen; omega⟩
  · exact ⟨_, _, h1, h2, h3⟩
theorem HvO.other {n0 : Nat} {w w' : World} {v : Value} {l : List Hd} (h : HvO n0 w v l) (hb : ∀ j, v.ownBlock = some j → w'.heap[j]? = w.heap[j]?) (hk : Kp n0 w w') : HvO n0 w' v l := ⟨own_keptS h.own hb, fun x hx => ⟨(h.body x hx).1.kp hk, (h.body x hx).2⟩⟩
theorem HvO.ownlt {n0 : Nat} {w : World} {v : Value} {l : List Hd} (h : HvO n0 w v l) {j : Nat} (hj : v.ownBlock = some j) : n0 ≤ j ∧ j < w.heap.size := h.own.lt j hj
theorem HvO.rd {n0 : Nat} {w : World} {A : Option Addr} {n c : Nat} {l : List Hd} (h : HvO n0 w (.slice A n c) l) : Rd w w.heap.size A (l.flatMap Hd.cells) := by
  obtain ⟨A', c', e1, -, -⟩ := h.form
  injection e1 with e1 e2 e3
  subst e2
  exact Rd.of_own h.own
/-- A step of the store beside what is had. -/
theorem KpAt.stepS {n0 : Nat} {w w' : World} {g bm : Nat} {v : Value} {most next : Int} {hs ks ks' : List Hd} (h : KpAt n0 w g bm v most next hs ks) (hn : n0 ≤ w.heap.size) (hS : StepS g bm ks ks' w w') :
    (∀ x ∈ ks', HdOk (fun k => (n0 ≤ k ∧ k < w'.heap.size) ∧ some k ≠ v.ownBlock ∧ k ≠ g ∧ k ≠ bm) w' x) ∧ HvO n0 w' v hs ∧ Below n0 w w' := by
  have hb : Below n0 w w' := hS.but.below (Below.refl _ _) h.gn.1 h.bn.1 hn
  refine ⟨fun x hx => ?_, h.hv.other (fun j hj => ?_) (kp_of_below hb), hb⟩
  · have hgl := h.st.lt
    have hbl := h.st.mp.lt
    rcases hS.src x hx with e | e
    · exact ((h.sep x e).kept (fun k hk hp => hS.but.block k hk hp.2.2.1 hp.2.2.2) hS.but.size).weaken fun k hk => ⟨⟨hk.1.1, Nat.lt_of_lt_of_le hk.1.2 hS.but.size⟩, hk.2⟩
    · exact e.weaken fun k hk => ⟨⟨by omega, hk.2⟩, fun e => by have := (h.hv.ownlt e.symm).2; omega, by omega, by omega⟩
  · have := h.hv.ownlt hj
    exact hS.but.block j this.2 (fun e => h.gn.2 (by rw [hj, e])) (fun e => h.bn.2 (by rw [hj, e]))
theorem KpAt.step {n0 : Nat} {w w' : World} {g bm : Nat} {v : Value} {most next : Int} {hs ks : List Hd} (h : KpAt n0 w g bm v most next hs ks) (hn : n0 ≤ w.heap.size) (hb : Below w.heap.size w w') : KpAt n0 w' g bm v most next hs ks := by
  obtain ⟨h1, h2, -⟩ := h.stepS hn (ks' := ks) ⟨But.of_below hb, fun x hx => .inl hx⟩
  exact ⟨h.st.step hb, h2, h.ob, h1, h.gn, h.bn, h.nx, h.ln, h.mo, h.nr⟩
theorem KpAt.same {n0 : Nat} {w w' : World} {g bm : Nat} {v : Value} {most next : Int} {hs ks : List Hd} (h : KpAt n0 w g bm v most next hs ks) (hn : n0 ≤ w.heap.size) (hS : StAt w' g bm most next ks) (hT : StepS g bm ks ks w w') : KpAt n0 w' g bm v most next hs ks ∧ Below n0 w w' := by
  obtain ⟨h1, h2, h3⟩ := h.stepS hn hT
  exact ⟨⟨hS, h2, h.ob, h1, h.gn, h.bn, h.nx, h.ln, h.mo, h.nr⟩, h3⟩
theorem KpAt.len {n0 : Nat} {w : World} {g bm : Nat} {v : Value} {most next : Int} {hs ks : List Hd} (h : KpAt n0 w g bm v most next hs ks) : ks.length = hs.length := by
  have := congrArg List.length h.ob
  simpa using this.symm
/-- What is had has the store's numbers: they rise. -/
theorem KpAt.rise {n0 : Nat} {w : World} {g bm : Nat} {v : Value} {most next : Int} {hs ks : List Hd} (h : KpAt n0 w g bm v most next hs ks) {i j : Nat} (hij : i < j) (hj : j < hs.length) : hs[i].h < hs[j].h := by
  have hl := h.len
  have ha := List.pairwise_iff_getElem.1 (show (ks.map fun x => (x.h, x.val)).Pairwise _ from h.st.mp.asc) i j (by simp; omega) (by simp; omega) hij
  have e : ∀ t (ht : t < hs.length), hs[t].h = (ks[t]'(by omega)).h := fun t ht => by
    have := congrArg (fun q => q[t]?) h.ob
    simp only [List.getElem?_map, List.getElem?_eq_getElem ht, List.getElem?_eq_getElem (show t < ks.length by omega), Option.map_some] at this
    injection this with this
    exact congrArg (·.1) this
  rw [e i (by omega), e j hj]
  simpa using ha
theorem find_ob {hs ks : List Hd} (h : hs.map Hd.ob = ks.map Hd.ob) (k : Int) : (findO ks k).map Hd.ob = (findO hs k).map Hd.ob := by
  unfold findO
  have e : ∀ l : List Hd, (l.find? fun x => x.h == k).map Hd.ob = (l.map Hd.ob).find? fun x => x.1 == k := fun l => by rw [List.find?_map]; rfl
  rw [e, e, h]
/-- What keeps answers. -/
def KeepsR (n0 g bm : Nat) (most : Int) (w : World) (e : Ending) (w' : World) : Prop :=
  ∃ A c hs ks next, e = .returned (.tuple #[.slice A (List.length hs) c, .int .i64 next, .bool true]) ∧ KpAt n0 w' g bm (.slice A (List.length hs) c) most next hs ks ∧ Below n0 w w'
/-- A number's place among what is had. -/
def PlaceN (hs : List Hd) (k : Int) (j : Nat) (z : Int) : Prop := (z = -1 ∧ ∀ i (hi : i < hs.length), i < j → hs[i].h ≠ k) ∨ ∃ i, ∃ hi : i < hs.length, i < j ∧ z = (i : Int) ∧ hs[i].h = k
theorem place_none {hs : List Hd} {k : Int} (h : PlaceN hs k hs.length (-1)) : findO hs k = none := by
  unfold findO
  rw [List.find?_eq_none]
  intro x hx
  obtain ⟨i, hi, rfl⟩ := List.getElem_of_mem hx
  rcases h with ⟨-, h⟩ | ⟨i', _, _, h, _⟩
  · simpa using h i hi hi
  · omega
theorem place_some {hs : List Hd} {k : Int} {i : Nat} (hi : i < hs.length) (h : hs[i].h = k) (hr : ∀ i j (hij : i < j) (hj : j < hs.length), hs[i].h < hs[j].h) : findO hs k = some hs[i] := by
  unfold findO
  rw [List.find?_eq_some_iff_getElem]
  refine ⟨by simpa using h, i, hi, rfl, fun j hj => ?_⟩
  have := hr j i hj hi
  simp; omega
end Go.Proofs.Ytakooljbkjnilaa
namespace Go.Proofs.Ytakooljbkjnilaa
open Go.ChangeShapes Go.WideShapes Go.ChangeAt Go.RowKit
set_option maxHeartbeats 1000000
set_option maxRecDepth 100000
attribute [local go_sem] kp_refl kp_alloc kp_setCell kp_drew kp_drewN row_new row_old rowAt_new rowAt_old
theorem KpAt.put {n0 : Nat} {w w' : World} {g bm : Nat} {v v' : Value} {most next : Int} {hs ks : List Hd} {x y : Hd} (h : KpAt n0 w g bm v most next hs ks) (hn : n0 ≤ w.heap.size) (hS : StAt w' g bm most (next + 1) (ks ++ [y])) (hT : StepS g bm ks (ks ++ [y]) w w') (hy : y.h = next) (hxy : x.ob = y.ob)
    (hx : Ats w n0 x.A x.l ∧ x.l.length ≤ x.cap ∧ x.cap ≤ maxLen ∧ x.l.length ≤ 4398046511104) (hf : (hs.length : Int) < most) (hf2 : next < 1073741824) {w2 : World} (hown : w2.ownsRow n0 45 3 v' (hs.length + 1) (hs.flatMap Hd.cells ++ x.cells)) {V : World} (hV : Below w'.heap.size w' V) (hg : V.grownBy w2 v.ownBlock) (hat : v'.ownBlock = v.ownBlock ∨ v'.ownBlock = some V.heap.size) :
    KpAt n0 w2 g bm v' most (next + 1) (hs ++ [x]) (ks ++ [y]) ∧ Below n0 w w2 := by
  obtain ⟨h1, h2, h3⟩ := h.stepS hn hT
  have hob : ∀ j, v.ownBlock = some j → n0 ≤ j ∧ j < w.heap.size := fun j hj => h.hv.ownlt hj
  have hs1 := hT.but.size
  have hs2 := hV.size
  have hk2 : ∀ k, k < V.heap.size → some k ≠ v.ownBlock → w2.heap[k]? = V.heap[k]? := fun k hk hne => hg.block k hk hne
  have hB2 : Below n0 w w2 := (h3.trans (hV.mono (by omega))).grown hg (by omega) fun k hk => (hob k hk).1
  have hgl := hS.lt
  have hbl := hS.mp.lt
  have hv' : ∀ k, k < w'.heap.size → some k ≠ v.ownBlock → some k ≠ v'.ownBlock := fun k hk hne => by
    rcases hat with e | e
    · rw [e]; exact hne
    · rw [e]; intro e2; injection e2; omega
  have hst : StAt w2 g bm most (next + 1) (ks ++ [y]) := by
    obtain ⟨te, e1⟩ := hS.cells
    obtain ⟨es', clock, hb', F, hss, hD⟩ := hS.mp.own
    have e : ∀ k, k < w'.heap.size → some k ≠ v.ownBlock → w2.heap[k]? = w'.heap[k]? := fun k hk hne => (hk2 k (by omega) hne).trans (hV.block k hk)
    exact ⟨⟨te, (e g hgl h.gn.2).trans e1⟩, ⟨⟨es', clock, (e bm hbl h.bn.2).trans hb', F, hss, hD⟩, hS.mp.asc, hS.mp.wf⟩, fun z hz => ((h1 z hz).kept (fun k hk hp => e k hk hp.2.1) (by have := hg.size; omega)).weaken fun k hk => hk.2.2⟩
  refine ⟨⟨hst, ⟨by simpa using hown, fun z hz => ?_⟩, ?_, fun z hz => ?_, ⟨h.gn.1, hv' g hgl h.gn.2⟩, ⟨h.bn.1, hv' bm hbl h.bn.2⟩, fun z hz => ?_, by simp; omega, h.mo, by have := h.nr; omega⟩, hB2⟩
  · rcases List.mem_append.1 hz with e | e
    · exact ⟨(h.hv.body z e).1.kp (kp_of_below hB2), (h.hv.body z e).2⟩
    · have e : z = x := by simpa using e
      subst e; exact ⟨hx.1.kp (kp_of_below hB2), hx.2⟩
  · rw [List.map_append, List.map_append, h.ob, List.map_cons, List.map_cons, hxy]
  · have e := h1 z hz
    exact (e.kept (fun k hk hp => (hk2 k (by omega) hp.2.1).trans (hV.block k hk)) (by have := hg.size; omega)).weaken fun k hk => ⟨⟨hk.1.1, by have := hk.1.2; have := hg.size; omega⟩, hv' k hk.1.2 hk.2.1, hk.2.2⟩
  · rcases List.mem_append.1 hz with e | e
    · have := h.nx z e; omega
    · have e : z = y := by simpa using e
      subst e; omega

set_option maxHeartbeats 8000000 in
theorem keeps_put (n0 g bm : Nat) (most next k : Int) (hs ks : List Hd) (A A2 : Option Addr) (c c2 : Nat) (al : List At) (w : World) (h : KpAt n0 w g bm (.slice A hs.length c) most next hs ks) (hn : n0 ≤ w.heap.size) (hA2 : Ats w n0 A2 al) (hc2 : al.length ≤ c2 ∧ c2 ≤ maxLen) (hal : al.length ≤ 4398046511104) (_hkw : (Lit.int .i64 k).wf = true) :
    Calls Try.prog 10 #[.pointer (some ⟨g, 0, none⟩), .slice A hs.length c, .int .i64 next, .int .i64 most, .agg #[.int .i64 1, .int .i64 k, .slice A2 al.length c2]] w (KeepsR n0 g bm most w) := by
  have hrd := Lib.hid h.hv.rd
  have hH := Lib.hid h
  have hl : hs.length ≤ 16 := by have := h.ln; have := h.mo; omega
  have hkl := Lib.hid h.len
  have hrise := Lib.hid (fun i j (hij : i < j) (hj : j < hs.length) => h.rise hij hj)
  have hA2 := Lib.hid hA2
  clear h
  go_enter Try.func10, Try.ntmps10
  go_wp2
  go_loopw [13, 33] (fun v x wr => ∃ j : Nat, x = .int .i64 j ∧ j ≤ hs.length ∧ (∃ z, v = .int .i64 z ∧ PlaceN hs k j z) ∧ B3 wr w.heap.size (.int .i64 1) (.int .i64 k) (.slice A2 al.length c2) ∧ Below w.heap.size w wr) (fun _ x _ => hs.length - (Go.RowKit.intOf x).toNat)
  case atStart => exact ⟨0, rfl, Nat.zero_le _, ⟨-1, rfl, .inl ⟨rfl, fun i _ hi => absurd hi (by omega)⟩⟩, B3.new w _ _ _ _, below_alloc' _ _⟩
  case round =>
    obtain ⟨j, rfl, hj, ⟨z, rfl, hz⟩, h3, hb⟩ := hrel
    by_cases hjl : j = hs.length
    · subst hjl
      obtain ⟨x0, x1, x2, xf⟩ := h3.c
      have hzw := hb.size
      have hKw := Lib.hid (hH.out.step hn hb)
      have hA2r := Lib.hid (hA2.out.kp (kp_of_below (hb.mono hn)))
      have hbn := Lib.hid (hb.mono hn)
      have h3H := Lib.hid h3
      have hbH := Lib.hid hb
      have hglt := hKw.out.st.lt
      have hblt := hKw.out.st.mp.lt
      have hgn := hKw.out.gn.1
      have hnw : n0 ≤ wr.heap.size := by omega
      clear h3 hb
      have hkl2 : ks.length = hs.length := hkl.out
      by_cases hfu : most ≤ (ks.length : Int) ∨ next = 1073741824
      · have hP := Lib.hid ((store_Put g bm most next k ks A2 al c2 wr hKw.out.st hKw.out.nr hKw.out.nx n0 hA2r.out hgn hal (by omega)).mono (fun e w' (hh : PutSR g bm most next k ks (al.map At.kv) wr e w') => by unfold PutSR at hh; rw [if_pos hfu] at hh; exact hh))
        by_cases hm : most ≤ (hs.length : Int)
        · have dm : decide ((hs.length : Int) ≥ most) = true := by simpa using hm
          have dm2 : decide (most ≤ (hs.length : Int)) = true := by simpa using hm
          clear hkl2 hfu
          go_wp2_with (go_at_call 14; refine hP.out.mono ?_; rintro e w5 ⟨rfl, hS5, hT5⟩)
          all_goals go_ret3
          all_goals (obtain ⟨q1, q2⟩ := hKw.out.same hnw hS5 hT5; exact ⟨A, c, hs, ks, next, rfl, q1, hbn.out.trans q2⟩)
        · have dm : decide ((hs.length : Int) ≥ most) = false := by simpa using hm
          have dm2 : decide (most ≤ (hs.length : Int)) = false := by simpa using hm
          obtain rfl : next = 1073741824 := by rcases hfu with e | e; (exact absurd (by omega) hm); exact e
          clear hkl2 hfu
          go_wp2_with (go_at_call 14; refine hP.out.mono ?_; rintro e w5 ⟨rfl, hS5, hT5⟩)
          all_goals go_ret3
          all_goals (obtain ⟨q1, q2⟩ := hKw.out.same hnw hS5 hT5; exact ⟨A, c, hs, ks, 1073741824, rfl, q1, hbn.out.trans q2⟩)
      · have hP := Lib.hid ((store_Put g bm most next k ks A2 al c2 wr hKw.out.st hKw.out.nr hKw.out.nx n0 hA2r.out hgn hal (by omega)).mono (fun e w' (hh : PutSR g bm most next k ks (al.map At.kv) wr e w') => by unfold PutSR at hh; rw [if_neg hfu] at hh; exact hh))
        have hm : ¬ most ≤ (hs.length : Int) := fun e => hfu (.inl (by omega))
        have hx : next < 1073741824 := by have := hKw.out.nr; have : next ≠ 1073741824 := fun e => hfu (.inr e); omega
        have dm : decide ((hs.length : Int) ≥ most) = false := by simpa using hm
        have dm2 : decide (most ≤ (hs.length : Int)) = false := by simpa using hm
        have dx : decide (next ≥ 1073741824) = false := by simp; omega
        have dx2 : decide (1073741824 ≤ next) = false := by simp; omega
        have hwx : IntKind.i64.wrap (next + 1) = next + 1 := by have := hKw.out.nr; rw [IntKind.wrap_i64]; omega
        have hob := hKw.out.hv.own.lt
        clear hkl2 hfu
        go_upto_region 14 with (go_at_call 14; refine hP.out.mono ?_; rintro e w5 ⟨y, rfl, hyo, hS5, hT5⟩)
        all_goals
          have hgw := hH.out.st.lt
          have hbw := hH.out.st.mp.lt
          have hz5 := hT5.but.size
          have y3 := h3H.out.other (w' := w5) (hT5.but.block _ h3H.out.lt (by omega) (by omega))
          obtain ⟨y0, y1, y2, yf⟩ := y3.c
          have hv5 := (hKw.out.stepS hnw hT5).2.1.own
          have hV := below_alloc' w5 (.cells #[.int .i64 next, .int .i64 k, .slice A2 al.length c2] 45)
          have hO5 := Lib.hid (own_keptS hv5 (fun j hj => hV.block j (hv5.lt j hj).2))
          have hput := Lib.hid (fun v' w2 (h1 : w2.ownsRow n0 45 3 v' (hs.length + 1) (hs.flatMap Hd.cells ++ (⟨next, k, A2, c2, al⟩ : Hd).cells)) h2 h3 => hKw.out.put (x := ⟨next, k, A2, c2, al⟩) (v' := v') (w2 := w2) hnw hS5 hT5 (congrArg (·.1) hyo) hyo.symm ⟨hA2r.out, hc2.1, hc2.2, hal⟩ (by omega) hx h1 hV h2 h3)
          clear x0 x1 x2 hv5 y3
          go_wp2_with (at_builtin; go_must (refine wpList_app rfl (.tmp 76) (.tmp 83) 27 rfl SHd rfl hO5.out (m := 1) (news := [.int .i64 next, .int .i64 k, .slice A2 al.length c2]) rfl rfl (Rd.of_blk (g := w5.heap.size) (blk_new _ _ rfl) (Nat.lt_succ_self _)) (by intro u hu; simp at hu; rcases hu with rfl | rfl | rfl <;> rfl) (by unfold maxLen; omega) (by omega) (by simp; omega) ?_); intro v2 w6 hO6 hg6 hat6; obtain ⟨A9, c9, rfl⟩ := own_formS hO6)
          go_ret3
          obtain ⟨q1, q2⟩ := hput.out _ _ hO6 hg6 hat6
          refine ⟨A9, c9, hs ++ [⟨next, k, A2, c2, al⟩], ks ++ [y], next + 1, ?_, ?_, hbn.out.trans q2⟩
          · rw [List.length_append]; rfl
          · rw [List.length_append]; exact q1
    · have hjl : j < hs.length := by omega
      have hcl := hrd.out.kp (kp_of_below hb)
      obtain ⟨ad, rfl, hal, p0, p1, p2⟩ := hd_at hcl hjl
      have hk1 : hs[j].h = k → PlaceN hs k (j + 1) (j : Int) := fun e => .inr ⟨j, hjl, by omega, rfl, e⟩
      have hk2 : hs[j].h ≠ k → PlaceN hs k (j + 1) z := fun e => by
        rcases hz with ⟨h1, h2⟩ | ⟨i, hi, h1, h2, h3⟩
        · refine .inl ⟨h1, fun i hi hij => ?_⟩
          rcases Nat.lt_or_ge i j with h | h
          · exact h2 i hi h
          · have : i = j := by omega
            subst this; exact e
        · exact .inr ⟨i, hi, by omega, h2, h3⟩
      have hk1 := Lib.hid hk1
      have hk2 := Lib.hid hk2
      clear hH hkl hrise hrd
      generalize hs[j] = x at *
      obtain ⟨xh, xo, xA, xc, xl⟩ := x
      simp only at p0 p1 p2 hk1 hk2
      have hbA := below_alloc' wr (.cells #[.int .i64 xh, .int .i64 xo, .slice xA xl.length xc] 45)
      have h3A := Lib.hid (h3.step hbA)
      have hbB := Lib.hid (hb.trans (hbA.mono hb.size))
      obtain ⟨x0, x1, x2, xf⟩ := h3.c
      have x1A := (hbA.cell (p := ⟨w.heap.size, 1, none⟩) h3.lt).trans x1
      clear hz hcl h3 hbA
      by_cases he : xh = k
      · have hp := Lib.hid (hk1.out he)
        have hd : (xh == k) = true := by simpa using he
        clear he
        go_wp2
        go_roundw
        case rel => exact ⟨j + 1, by go_num, by omega, ⟨j, rfl, hp.out⟩, h3A.out, hbB.out⟩
        case measure => simp [Go.RowKit.intOf]; omega
      · have hp := Lib.hid (hk2.out he)
        have hd : (xh == k) = false := by simpa using he
        clear he
        go_wp2
        go_roundw
        case rel => exact ⟨j + 1, by go_num, by omega, ⟨z, rfl, hp.out⟩, h3A.out, hbB.out⟩
        case measure => simp [Go.RowKit.intOf]; omega
end Go.Proofs.Ytakooljbkjnilaa
namespace Go.Proofs.Ytakooljbkjnilaa
open Go.ChangeShapes Go.WideShapes Go.ChangeAt Go.RowKit
set_option maxHeartbeats 1000000
set_option maxRecDepth 100000
attribute [local go_sem] kp_refl kp_alloc kp_setCell kp_drew kp_drewN row_new row_old rowAt_new rowAt_old
theorem KpAt.fresh {n0 : Nat} {w w6 : World} {g bm : Nat} {v v' : Value} {most next : Int} {hs hs' ks ks' : List Hd} (h : KpAt n0 w g bm v most next hs ks) (hn : n0 ≤ w.heap.size) (hS : StAt w6 g bm most next ks') (hT : But g bm w w6) (hks : ∀ x ∈ ks', x ∈ ks) (hhs : ∀ x ∈ hs', x ∈ hs) (hob : hs'.map Hd.ob = ks'.map Hd.ob) (hlen : hs'.length ≤ hs.length)
    (hown : w6.ownsRow w.heap.size 45 3 v' hs'.length (hs'.flatMap Hd.cells)) : KpAt n0 w6 g bm v' most next hs' ks' ∧ Below n0 w w6 := by
  have hB : Below n0 w w6 := hT.below (Below.refl _ _) h.gn.1 h.bn.1 hn
  have hv : ∀ k, k < w.heap.size → some k ≠ v'.ownBlock := fun k hk e => by have := (hown.lt k e.symm).1; omega
  refine ⟨⟨hS, ⟨own_lower hown hn, fun z hz => ?_⟩, hob, fun z hz => ?_, ⟨h.gn.1, hv g h.st.lt⟩, ⟨h.bn.1, hv bm h.st.mp.lt⟩, fun z hz => h.nx z (hks z hz), by have := h.ln; omega, h.mo, h.nr⟩, hB⟩
  · have := h.hv.body z (hhs z hz)
    exact ⟨this.1.kp (kp_of_below hB), this.2⟩
  · exact ((h.sep z (hks z hz)).kept (fun k hk hp => hT.block k hk hp.2.2.1 hp.2.2.2) hT.size).weaken fun k hk => ⟨⟨hk.1.1, Nat.lt_of_lt_of_le hk.1.2 hT.size⟩, hv k hk.1.2, hk.2.2⟩
def SRel.hrow (B i : Nat) (xs : List Value) : SRel := ⟨fun v V => V.ownsRow B 45 3 v i xs, fun _ _ _ hb h => own_keptS h fun j hj => hb.block j (h.lt j hj).2⟩
theorem below_none {A B : World} {v : Value} (h : A.grownBy B v.ownBlock) (hv : v.ownBlock = none) : Below A.heap.size A B := ⟨h.os, h.tape, h.output, h.size, fun k hk => h.block k hk (by rw [hv]; simp)⟩
theorem hd_one (l : List Hd) : ∀ u ∈ l.flatMap Hd.cells, u.oneCell' = true := by
  intro u hu
  obtain ⟨x, -, hx⟩ := List.mem_flatMap.1 hu
  simp [Hd.cells] at hx
  rcases hx with rfl | rfl | rfl <;> rfl
theorem hd_flen (l : List Hd) : (l.flatMap Hd.cells).length = l.length * 3 := by
  induction l with
  | nil => rfl
  | cons x r ih => rw [List.flatMap_cons, List.length_append, ih]; simp [Hd.cells]; omega
theorem hd_take (l : List Hd) (i : Nat) : (l.take i).flatMap Hd.cells = (l.flatMap Hd.cells).take (i * 3) := by
  induction l generalizing i with
  | nil => simp
  | cons x r ih =>
    cases i with
    | zero => simp
    | succ i => rw [show (i + 1) * 3 = i * 3 + 3 by omega]; simp [Hd.cells, ih]
theorem hd_drop (l : List Hd) (i : Nat) : (l.drop i).flatMap Hd.cells = (l.flatMap Hd.cells).drop (i * 3) := by
  induction l generalizing i with
  | nil => simp
  | cons x r ih =>
    cases i with
    | zero => simp
    | succ i => rw [show (i + 1) * 3 = i * 3 + 3 by omega]; simp [Hd.cells, ih]
/-- What is had without its i-th. -/
theorem drop_obs {hs ks : List Hd} {k : Int} {i : Nat} (hob : hs.map Hd.ob = ks.map Hd.ob) (hi : i < hs.length) (hik : hs[i].h = k) (hr : ∀ i j (hij : i < j) (hj : j < hs.length), hs[i].h < hs[j].h) : (hs.take i ++ hs.drop (i + 1)).map Hd.ob = (dropO ks k).map Hd.ob := by
  have e : ∀ l : List Hd, (dropO l k).map Hd.ob = (l.map Hd.ob).filter fun x => x.1 != k := fun l => by unfold dropO; rw [List.filter_map]; rfl
  rw [e, ← hob, ← e]
  congr 1
  unfold dropO
  have h1 : hs = hs.take i ++ hs[i] :: hs.drop (i + 1) := by rw [← List.drop_eq_getElem_cons hi, List.take_append_drop]
  have e1 : (hs.take i).filter (fun x => x.h != k) = hs.take i := by
    rw [List.filter_eq_self]
    intro x hx
    obtain ⟨t, ht, rfl⟩ := List.getElem_of_mem hx
    have ht2 : t < i := by simp at ht; omega
    have := hr t i ht2 hi
    simp; omega
  have e2 : (hs.drop (i + 1)).filter (fun x => x.h != k) = hs.drop (i + 1) := by
    rw [List.filter_eq_self]
    intro x hx
    obtain ⟨t, ht, rfl⟩ := List.getElem_of_mem hx
    have ht2 : i + 1 + t < hs.length := by simp at ht; omega
    have := hr i (i + 1 + t) (by omega) ht2
    simp; omega
  conv => rhs; rw [h1]
  rw [List.filter_append, List.filter_cons_of_neg (by simp [hik]), e1, e2]

set_option maxHeartbeats 8000000 in
theorem keeps_drop (n0 g bm : Nat) (most next k : Int) (hs ks : List Hd) (A A2 : Option Addr) (c c2 : Nat) (al : List At) (w : World) (h : KpAt n0 w g bm (.slice A hs.length c) most next hs ks) (hn : n0 ≤ w.heap.size) (hA2 : Ats w n0 A2 al) (_hc2 : al.length ≤ c2 ∧ c2 ≤ maxLen) (_hal : al.length ≤ 4398046511104) (hkw : (Lit.int .i64 k).wf = true) :
    Calls Try.prog 10 #[.pointer (some ⟨g, 0, none⟩), .slice A hs.length c, .int .i64 next, .int .i64 most, .agg #[.int .i64 4, .int .i64 k, .slice A2 al.length c2]] w (KeepsR n0 g bm most w) := by
  have hrd := Lib.hid h.hv.rd
  have hH := Lib.hid h
  have hl : hs.length ≤ 16 := by have := h.ln; have := h.mo; omega
  have hkl := Lib.hid h.len
  have hrise := Lib.hid (fun i j (hij : i < j) (hj : j < hs.length) => h.rise hij hj)
  have hA2 := Lib.hid hA2
  clear h
  go_enter Try.func10, Try.ntmps10
  go_wp2
  go_loopw [13, 33] (fun v x wr => ∃ j : Nat, x = .int .i64 j ∧ j ≤ hs.length ∧ (∃ z, v = .int .i64 z ∧ PlaceN hs k j z) ∧ B3 wr w.heap.size (.int .i64 4) (.int .i64 k) (.slice A2 al.length c2) ∧ Below w.heap.size w wr) (fun _ x _ => hs.length - (Go.RowKit.intOf x).toNat)
  case atStart => exact ⟨0, rfl, Nat.zero_le _, ⟨-1, rfl, .inl ⟨rfl, fun i _ hi => absurd hi (by omega)⟩⟩, B3.new w _ _ _ _, below_alloc' _ _⟩
  case round =>
    obtain ⟨j, rfl, hj, ⟨z, rfl, hz⟩, h3, hb⟩ := hrel
    by_cases hjl : j = hs.length
    · subst hjl
      obtain ⟨x0, x1, x2, xf⟩ := h3.c
      have hzw := hb.size
      have hKw := Lib.hid (hH.out.step hn hb)
      have hA2r := Lib.hid (hA2.out.kp (kp_of_below (hb.mono hn)))
      have hbn := Lib.hid (hb.mono hn)
      have h3H := Lib.hid h3
      have hbH := Lib.hid hb
      have hglt := hKw.out.st.lt
      have hblt := hKw.out.st.mp.lt
      have hgn := hKw.out.gn.1
      have hnw : n0 ≤ wr.heap.size := by omega
      clear h3 hb
      have hkl2 : ks.length ≤ 100000 := by rw [hkl.out]; omega
      have hSe := Lib.hid (store_Drop g bm most next k ks wr hKw.out.st hkw)
      rcases hz with ⟨rfl, hno⟩ | ⟨i, hi, -, rfl, hik⟩
      · have hnn : findO ks k = none := by
          have := find_ob hKw.out.ob k
          rw [place_none (.inl ⟨rfl, hno⟩)] at this
          simpa using this
        have hSe2 : Hid (Calls Try.prog 17 #[.pointer (some ⟨g, 0, none⟩), .int .i64 k] wr fun e w' => e = .returned (.int .i64 6) ∧ StAt w' g bm most next ks ∧ StepS g bm ks ks wr w') := by
          have := hSe.out
          rw [drop_none hnn, hnn] at this
          exact this
        clear hnn hno hSe
        go_wp2_with (go_at_call 17; refine hSe2.out.mono ?_; rintro e w5 ⟨rfl, hS5, hT5⟩)
        go_ret3
        obtain ⟨q1, q2⟩ := hKw.out.same hnw hS5 hT5
        exact ⟨A, c, hs, ks, next, rfl, q1, hbn.out.trans q2⟩
      · have hys : (findO ks k).isSome = true := by
          have := find_ob hKw.out.ob k
          rw [place_some hi hik hrise.out] at this
          cases hf : findO ks k with
          | none => rw [hf] at this; cases this
          | some y => rfl
        have hSe2 : Hid (Calls Try.prog 17 #[.pointer (some ⟨g, 0, none⟩), .int .i64 k] wr fun e w' => e = .returned (.int .i64 0) ∧ StAt w' g bm most next (dropO ks k) ∧ StepS g bm ks (dropO ks k) wr w') := by
          have := hSe.out
          rw [hys, if_pos rfl] at this
          exact this
        have hdo := Lib.hid (drop_obs hKw.out.ob hi hik hrise.out)
        have hcc : hs.length ≤ c := by
          obtain ⟨A', c', e1, e2, -⟩ := hKw.out.hv.form
          injection e1 with _ _ e1; omega
        have dz : decide ((i : Int) < 0) = false := by simp
        have dz2 : decide ((i : Int) ≥ 0) = true := by simp
        have hwi : IntKind.i64.wrap ((i : Int) + 1) = (i : Int) + 1 := by rw [IntKind.wrap_i64]; omega
        clear hSe hys hkl2
        go_upto_region 30 with (go_at_call 17; refine hSe2.out.mono ?_; rintro e w5 ⟨rfl, hS5, hT5⟩)
        have hv5 := (hKw.out.stepS hnw hT5).2.1
        have hsz5 := hT5.but.size
        have hrd5 := Lib.hid (fun V (hV : Below w5.heap.size w5 V) => (hv5.rd.below hV).more hV.size)
        obtain ⟨A1, hsf, hA1⟩ := sl_from SHd A hs.length c (hs.length - (i + 1)) ((i : Int) + 1) (by omega) (by omega) (by omega) hcc
        have hst := sl_to SHd A hs.length c i (i : Int) (by omega) (by omega) (by omega)
        have e4 : ((i : Int) + 1).toNat = i + 1 := by omega
        rw [e4] at hsf hA1
        have hA1 := Lib.hid hA1
        have hi2 : i ≤ hs.length := by omega
        clear hv5 x0 x1 x2 xf
        generalize ha0 : Act.mk _ _ = a0
        have e1 : a0.tmps[1]?.getD undef = .slice A hs.length c := by rw [← ha0]; rfl
        have e13 : a0.tmps[13]?.getD undef = .int .i64 (i : Int) := by rw [← ha0]; rfl
        have hz0 : a0.tmps.size = 251 := by rw [← ha0]; rfl
        have hha0 := Lib.hid ha0
        clear ha0
        refine wp_region_tailL (fun jx_ => match jx_ with | 0 => SRel.is (.slice A hs.length c) | 1 => SRel.is (.int .i64 (i : Int)) | 2 => SRel.is (.slice A i c) | 3 => SRel.hrow w5.heap.size i ((hs.take i).flatMap Hd.cells) | 4 => SRel.is (.slice A hs.length c) | 5 => SRel.is (.int .i64 (i : Int)) | 6 => SRel.is (.int .i64 ((i : Int) + 1)) | 7 => SRel.is (.slice A1 (hs.length - (i + 1)) (c - (i + 1))) | 8 => SRel.any | 9 => SRel.any | _ => SRel.any) 8 (by kernel_rfl) (by kernel_rfl) (by kernel_rfl) (slotsOk_of hz0 (by kernel_rfl)) (by kernel_rfl) (of_decide_eq_true (by kernel_rfl)) ⟨?_, ?_, ?_, ?_, ?_, ?_, ?_, ?_, trivial⟩ ?_
        · refine calmL_step rfl fun a ω κ hb hu hc hK => ?_
          have h1 : a.tmps[1]?.getD undef = .slice A hs.length c := (hu 1 rfl).trans e1
          have hk := Lib.hid (fun w1 (h : Below ω.heap.size ω w1) => hK (.slice A hs.length c) w1 rfl h)
          clear hK hu hc
          go_simp
          exact hk.out _ (Below.refl _ _)
        · refine calmL_step rfl fun a ω κ hb hu hc hK => ?_
          have h13 : a.tmps[13]?.getD undef = .int .i64 (i : Int) := (hu 13 rfl).trans e13
          have hk := Lib.hid (fun w1 (h : Below ω.heap.size ω w1) => hK (.int .i64 (i : Int)) w1 rfl h)
          clear hK hu hc
          go_simp
          exact hk.out _ (Below.refl _ _)
        · refine calmL_step rfl fun a ω κ hb hu hc hK => ?_
          have h167 : a.tmps[167]?.getD undef = .slice A hs.length c := hc 0 167 rfl rfl
          have h168 : a.tmps[168]?.getD undef = .int .i64 (i : Int) := hc 1 168 rfl rfl
          have hk := Lib.hid (fun w1 (h : Below ω.heap.size ω w1) => hK (.slice A i c) w1 rfl h)
          clear hK hu hc
          go_simp
          exact hk.out _ (Below.refl _ _)
        · refine calmL_step rfl fun a ω κ hb hu hc hK => ?_
          have h169 : a.tmps[169]?.getD undef = .slice A i c := hc 2 169 rfl rfl
          have hk := Lib.hid (fun v w1 (hv : (SRel.hrow w5.heap.size i ((hs.take i).flatMap Hd.cells)).p v w1) (h : Below ω.heap.size ω w1) => hK v w1 hv h)
          clear hK hu hc
          refine wp_app (.const (.slice none 0 0)) (.tmp 169) 27 rfl SHd rfl (World.ownsRow_nil _ w5.heap.size _ _) (A := A) (c := c) (by go_simp) (m := i) (news := (hs.take i).flatMap Hd.cells) (by rw [hd_flen, List.length_take]; omega) (by rw [hd_take]; exact (hrd5.out ω hb).take) (hd_one _) (by unfold maxLen; omega) (by omega) hb.size ?_
          intro v8 w8 hO8 hg8 hat8
          rw [Nat.zero_add, List.nil_append] at hO8
          exact hk.out v8 w8 hO8 (below_none hg8 rfl)
        · refine calmL_step rfl fun a ω κ hb hu hc hK => ?_
          have h1 : a.tmps[1]?.getD undef = .slice A hs.length c := (hu 1 rfl).trans e1
          have hk := Lib.hid (fun w1 (h : Below ω.heap.size ω w1) => hK (.slice A hs.length c) w1 rfl h)
          clear hK hu hc
          go_simp
          exact hk.out _ (Below.refl _ _)
        · refine calmL_step rfl fun a ω κ hb hu hc hK => ?_
          have h13 : a.tmps[13]?.getD undef = .int .i64 (i : Int) := (hu 13 rfl).trans e13
          have hk := Lib.hid (fun w1 (h : Below ω.heap.size ω w1) => hK (.int .i64 (i : Int)) w1 rfl h)
          clear hK hu hc
          go_simp
          exact hk.out _ (Below.refl _ _)
        · refine calmL_step rfl fun a ω κ hb hu hc hK => ?_
          have h172 : a.tmps[172]?.getD undef = .int .i64 (i : Int) := hc 5 172 rfl rfl
          have hk := Lib.hid (fun w1 (h : Below ω.heap.size ω w1) => hK (.int .i64 ((i : Int) + 1)) w1 rfl h)
          clear hK hu hc
          go_simp
          exact hk.out _ (Below.refl _ _)
        · refine calmL_step rfl fun a ω κ hb hu hc hK => ?_
          have h171 : a.tmps[171]?.getD undef = .slice A hs.length c := hc 4 171 rfl rfl
          have h173 : a.tmps[173]?.getD undef = .int .i64 ((i : Int) + 1) := hc 6 173 rfl rfl
          have hk := Lib.hid (fun w1 (h : Below ω.heap.size ω w1) => hK (.slice A1 (hs.length - (i + 1)) (c - (i + 1))) w1 rfl h)
          clear hK hu hc
          go_simp
          exact hk.out _ (Below.refl _ _)
        · intro aa ω hb hu hsz hdf hc
          have h167 : aa.tmps[167]?.getD undef = .slice A hs.length c := hc 0 167 (by decide) rfl
          have h168 : aa.tmps[168]?.getD undef = .int .i64 (i : Int) := hc 1 168 (by decide) rfl
          have h169 : aa.tmps[169]?.getD undef = .slice A i c := hc 2 169 (by decide) rfl
          have h170 : (SRel.hrow w5.heap.size i ((hs.take i).flatMap Hd.cells)).p (aa.tmps[170]?.getD undef) ω := hc 3 170 (by decide) rfl
          have h171 : aa.tmps[171]?.getD undef = .slice A hs.length c := hc 4 171 (by decide) rfl
          have h172 : aa.tmps[172]?.getD undef = .int .i64 (i : Int) := hc 5 172 (by decide) rfl
          have h173 : aa.tmps[173]?.getD undef = .int .i64 ((i : Int) + 1) := hc 6 173 (by decide) rfl
          have h174 : aa.tmps[174]?.getD undef = .slice A1 (hs.length - (i + 1)) (c - (i + 1)) := hc 7 174 (by decide) rfl
          have ha0 := hha0.out
          subst ha0
          have he := act_patchL (n := 251) 8 [false, false, false, false, false, false, false, false, false, false, false, false, false, false, false, false, false, false, false, false, false, false, false, false, false, false, false, false, false, false, false, false, false, false, false, false, false, false, false, false, false, false, false, false, false, false, false, false, false, false, false, false, false, false, false, false, false, false, false, false, false, false, false, false, false, false, false, false, false, false, false, false, false, false, false, false, false, false, false, false, false, false, false, false, false, false, false, false, false, false, false, false, false, false, false, false, false, false, false, false, false, false, false, false, false, false, false, false, false, false, false, false, false, false, false, false, false, false, false, false, false, false, false, false, false, false, false, false, false, false, false, false, false, false, false, false, false, false, false, false, false, false, false, false, false, false, false, false, false, false, false, false, false, false, false, false, false, false, false, false, false, false, false, false, false, false, false, true, true, true, true, true, true, true, true, false, false, false, false, false, false, false, false, false, false, false, false, false, false, false, false, false, false, false, false, false, false, false, false, false, false, false, false, false, false, false, false, false, false, false, false, false, false, false, false, false, false, false, false, false, false, false, false, false, false, false, false, false, false, false, false, false, false, false, false, false, false, false, false, false, false, false, false, false, false, false, false, false, false, false, false] rfl (by kernel_rfl) hu hsz hdf
          simp only [patch, cond_true, cond_false, Nat.reduceAdd] at he
          clear hu hsz hdf hc hha0 e1 e13 hz0
          rw [he]
          clear he
          generalize aa.tmps[167]?.getD undef = x167 at *
          generalize aa.tmps[168]?.getD undef = x168 at *
          generalize aa.tmps[169]?.getD undef = x169 at *
          generalize aa.tmps[170]?.getD undef = x170 at *
          generalize aa.tmps[171]?.getD undef = x171 at *
          generalize aa.tmps[172]?.getD undef = x172 at *
          generalize aa.tmps[173]?.getD undef = x173 at *
          generalize aa.tmps[174]?.getD undef = x174 at *
          subst h167 h168 h169 h171 h172 h173 h174
          have hfin := Lib.hid (fun V v' (hb1 : Below w5.heap.size w5 V) (h2 : V.ownsRow w5.heap.size 45 3 v' (hs.take i ++ hs.drop (i + 1)).length ((hs.take i ++ hs.drop (i + 1)).flatMap Hd.cells)) => hKw.out.fresh (v' := v') hnw (hS5.step hb1) (hT5.but.trans (But.of_below hb1)) dropO_sub (fun x hx => by
            rcases List.mem_append.1 hx with e | e
            · exact List.mem_of_mem_take e
            · exact List.mem_of_mem_drop e) hdo.out (by simp; omega) (own_lower h2 hsz5))
          have hrdω := Lib.hid (hrd5.out ω hb)
          have hbL := Lib.hid hb
          have hzω := hb.size
          have hln3 : (hs.take i).length = i := by rw [List.length_take]; omega
          have hln4 : (hs.drop (i + 1)).length = hs.length - (i + 1) := by rw [List.length_drop]
          have hO1 := Lib.hid h170
          have hltx := h170.lt
          clear h170
          dsimp only [List.drop]
          go_wp2_with (at_builtin; go_must (refine wpList_app (v := x170) (n := i) (xs := (hs.take i).flatMap Hd.cells) rfl (.tmp 170) (.tmp 174) 27 rfl SHd (by go_simp) hO1.out (A := A1) (c := c - (i + 1)) (by go_simp) (m := hs.length - (i + 1)) (news := (hs.drop (i + 1)).flatMap Hd.cells) (by rw [hd_flen, hln4]) (by rw [hd_drop]; exact hA1.out ω ω.heap.size _ (hd_flen hs) hrdω.out) (hd_one _) (by unfold maxLen; omega) (by omega) (by omega) ?_); intro v2 w6 hO6 hg6 hat6; clear hat6; obtain ⟨A9, c9, rfl⟩ := own_formS hO6; have hb6 := Lib.hid (hbL.out.grown hg6 (by omega) (fun k hk => (hltx k hk).1)))
          go_ret3
          obtain ⟨q1, q2⟩ := hfin.out w6 _ hb6.out (by rw [List.length_append, hln3, hln4, List.flatMap_append]; exact hO6)
          refine ⟨A9, c9, hs.take i ++ hs.drop (i + 1), dropO ks k, next, ?_, ?_, hbn.out.trans q2⟩
          · rw [List.length_append, hln3, hln4]; rfl
          · rw [List.length_append, hln3, hln4]
            rw [List.length_append, hln3, hln4] at hfin
            exact q1
    · have hjl : j < hs.length := by omega
      have hcl := hrd.out.kp (kp_of_below hb)
      obtain ⟨ad, rfl, hal, p0, p1, p2⟩ := hd_at hcl hjl
      have hk1 : hs[j].h = k → PlaceN hs k (j + 1) (j : Int) := fun e => .inr ⟨j, hjl, by omega, rfl, e⟩
      have hk2 : hs[j].h ≠ k → PlaceN hs k (j + 1) z := fun e => by
        rcases hz with ⟨h1, h2⟩ | ⟨i, hi, h1, h2, h3⟩
        · refine .inl ⟨h1, fun i hi hij => ?_⟩
          rcases Nat.lt_or_ge i j with h | h
          · exact h2 i hi h
          · have : i = j := by omega
            subst this; exact e
        · exact .inr ⟨i, hi, by omega, h2, h3⟩
      have hk1 := Lib.hid hk1
      have hk2 := Lib.hid hk2
      clear hH hkl hrise hrd
      generalize hs[j] = x at *
      obtain ⟨xh, xo, xA, xc, xl⟩ := x
      simp only at p0 p1 p2 hk1 hk2
      have hbA := below_alloc' wr (.cells #[.int .i64 xh, .int .i64 xo, .slice xA xl.length xc] 45)
      have h3A := Lib.hid (h3.step hbA)
      have hbB := Lib.hid (hb.trans (hbA.mono hb.size))
      obtain ⟨x0, x1, x2, xf⟩ := h3.c
      have x1A := (hbA.cell (p := ⟨w.heap.size, 1, none⟩) h3.lt).trans x1
      clear hz hcl h3 hbA
      by_cases he : xh = k
      · have hp := Lib.hid (hk1.out he)
        have hd : (xh == k) = true := by simpa using he
        clear he
        go_wp2
        go_roundw
        case rel => exact ⟨j + 1, by go_num, by omega, ⟨j, rfl, hp.out⟩, h3A.out, hbB.out⟩
        case measure => simp [Go.RowKit.intOf]; omega
      · have hp := Lib.hid (hk2.out he)
        have hd : (xh == k) = false := by simpa using he
        clear he
        go_wp2
        go_roundw
        case rel => exact ⟨j + 1, by go_num, by omega, ⟨z, rfl, hp.out⟩, h3A.out, hbB.out⟩
        case measure => simp [Go.RowKit.intOf]; omega
end Go.Proofs.Ytakooljbkjnilaa
namespace Go.Proofs.Ytakooljbkjnilaa
open Go.ChangeShapes Go.WideShapes Go.ChangeAt Go.RowKit
set_option maxHeartbeats 1000000
set_option maxRecDepth 100000
attribute [local go_sem] kp_refl kp_alloc kp_setCell kp_drew kp_drewN row_new row_old rowAt_new rowAt_old
theorem sl_mid {P : Program} {T e : TypeId} {size bytes : Nat} (S : SlT P T e size bytes) (A : Option Addr) (n c i : Nat) (h1 : i + 1 ≤ n) (hc : n ≤ c) :
    ∃ A1, (∀ W : World, (Instr.slice T (.slice A n c) (some (.int .i64 (i : Int))) (some (.int .i64 ((i : Int) + 1))) none).run P W = .ok (.slice A1 1 (c - i)) W) ∧
      ∀ (W : World) (B : Nat) (xs : List Value), xs.length = n * size → Rd W B A xs → Rd W B A1 (xs.drop (i * size)) := by
  obtain ⟨i', -, hi, -, hs, -⟩ := S.info
  have e1 : ((i : Int) + 1).toNat = i + 1 := by omega
  have e2 : ((i : Int)).toNat = i := by omega
  refine ⟨A.map (·.add (i * size)), fun W => ?_, fun W B xs hl h => ?_⟩
  · have h3 : ¬ (c = i) := by omega
    have h4 : ((i : Int) + 1) ≤ (c : Int) := by omega
    have h6 : (0 : Int) ≤ (i : Int) := by omega
    have h7 : (0 : Int) ≤ (i : Int) + 1 := by omega
    simp [Instr.slice, Instr.sliceBounds, run_underlying S.under, run_sliceBound, h3, h4, h6, h7, e1, sizeOf, typeInfo, hi, hs, go_sem]
  · cases A with
    | none =>
      cases xs with
      | nil => simpa using Rd.nil
      | cons u r => obtain ⟨ad, he, -⟩ := h 0 u rfl; cases he
    | some ad => exact h.drop
def SRel.one3 (v0 v1 v2 : Value) : SRel := ⟨fun v V => ∃ gb, v = .slice (some ⟨gb, 0, none⟩) 1 1 ∧ B3 V gb v0 v1 v2, fun _ _ _ hb ⟨gb, h1, h2⟩ => ⟨gb, h1, h2.step hb⟩⟩
theorem B3.rd {w : World} {b : Nat} {v0 v1 v2 : Value} (h : B3 w b v0 v1 v2) : Rd w w.heap.size (some ⟨b, 0, none⟩) [v0, v1, v2] := by
  obtain ⟨te, hg⟩ := h
  exact Rd.of_blk hg (blk_lt hg)
theorem sameB_one {x y : Hd} (h : x.ob = y.ob) : sameB [x] [y] = true := by simp [sameB, h]

set_option maxHeartbeats 8000000 in
theorem keeps_get (n0 g bm : Nat) (most next k : Int) (hs ks : List Hd) (A A2 : Option Addr) (c c2 : Nat) (al : List At) (w : World) (h : KpAt n0 w g bm (.slice A hs.length c) most next hs ks) (hn : n0 ≤ w.heap.size) (hA2 : Ats w n0 A2 al) (_hc2 : al.length ≤ c2 ∧ c2 ≤ maxLen) (_hal : al.length ≤ 4398046511104) (hkw : (Lit.int .i64 k).wf = true) :
    Calls Try.prog 10 #[.pointer (some ⟨g, 0, none⟩), .slice A hs.length c, .int .i64 next, .int .i64 most, .agg #[.int .i64 2, .int .i64 k, .slice A2 al.length c2]] w (KeepsR n0 g bm most w) := by
  have hrd := Lib.hid h.hv.rd
  have hH := Lib.hid h
  have hl : hs.length ≤ 16 := by have := h.ln; have := h.mo; omega
  have hkl := Lib.hid h.len
  have hrise := Lib.hid (fun i j (hij : i < j) (hj : j < hs.length) => h.rise hij hj)
  have hA2 := Lib.hid hA2
  clear h
  go_enter Try.func10, Try.ntmps10
  go_wp2
  go_loopw [13, 33] (fun v x wr => ∃ j : Nat, x = .int .i64 j ∧ j ≤ hs.length ∧ (∃ z, v = .int .i64 z ∧ PlaceN hs k j z) ∧ B3 wr w.heap.size (.int .i64 2) (.int .i64 k) (.slice A2 al.length c2) ∧ Below w.heap.size w wr) (fun _ x _ => hs.length - (Go.RowKit.intOf x).toNat)
  case atStart => exact ⟨0, rfl, Nat.zero_le _, ⟨-1, rfl, .inl ⟨rfl, fun i _ hi => absurd hi (by omega)⟩⟩, B3.new w _ _ _ _, below_alloc' _ _⟩
  case round =>
    obtain ⟨j, rfl, hj, ⟨z, rfl, hz⟩, h3, hb⟩ := hrel
    by_cases hjl : j = hs.length
    · subst hjl
      obtain ⟨x0, x1, x2, xf⟩ := h3.c
      have hzw := hb.size
      have hKw := Lib.hid (hH.out.step hn hb)
      have hA2r := Lib.hid (hA2.out.kp (kp_of_below (hb.mono hn)))
      have hbn := Lib.hid (hb.mono hn)
      have h3H := Lib.hid h3
      have hbH := Lib.hid hb
      have hglt := hKw.out.st.lt
      have hblt := hKw.out.st.mp.lt
      have hgn := hKw.out.gn.1
      have hnw : n0 ≤ wr.heap.size := by omega
      clear h3 hb
      have hkl2 : ks.length ≤ 100000 := by rw [hkl.out]; omega
      have hGe := Lib.hid (store_Get g bm most next k ks wr hKw.out.st hkw)
      rcases hz with ⟨rfl, hno⟩ | ⟨i, hi, -, rfl, hik⟩
      · have hnn : findO ks k = none := by
          have := find_ob hKw.out.ob k
          rw [place_none (.inl ⟨rfl, hno⟩)] at this
          simpa using this
        have hGe2 := Lib.hid (hGe.out.mono (fun e w' (hh : GetSR ks k wr e w') => by unfold GetSR at hh; rw [hnn] at hh; exact hh))
        clear hnn hno hGe
        go_upto_region 19 with (go_at_call 15; refine hGe2.out.mono ?_; rintro e w5 ⟨⟨xh, xo, xA, xc, xl⟩, rfl, hx, hxo, hb5⟩; simp only [Hd.val, Option.isSome_none])
        have b3 := B3.new w5 (.int .i64 xh) (.int .i64 xo) (.slice xA xl.length xc) 45
        have hbA := hb5.trans ((below_alloc' w5 (.cells #[.int .i64 xh, .int .i64 xo, .slice xA xl.length xc] 45)).mono hb5.size)
        have e1 : xh = 0 := congrArg (·.1) hxo
        have e2 : xo = 0 := congrArg (·.2.1) hxo
        have e3 : xl = [] := by have := congrArg (·.2.2) hxo; simpa [Hd.ob] using this
        subst e1 e2 e3
        clear hxo hx
        generalize w5.alloc (.cells #[.int .i64 0, .int .i64 0, .slice xA ([] : List At).length xc] 45) = W at *
        obtain ⟨r0, r1, r2, rf⟩ := b3.c
        have hK7 := Lib.hid (fun n => hKw.out.step hnw (below_dNS hbA n))
        have hB7 := Lib.hid (fun n => hbn.out.trans ((below_dNS hbA n).mono hnw))
        clear b3 hbA x0 x1 x2 xf
        go_wp2
        go_quiet (fail)
        go_wp2
        go_ret3
        exact ⟨A, c, hs, ks, next, rfl, hK7.out _, hB7.out _⟩
      · have hys : ∃ y, findO ks k = some y ∧ y.ob = hs[i].ob := by
          have := find_ob hKw.out.ob k
          rw [place_some hi hik hrise.out] at this
          cases hf : findO ks k with
          | none => rw [hf] at this; cases this
          | some y => rw [hf] at this; exact ⟨y, rfl, by simpa using this⟩
        obtain ⟨y, hy, hyo⟩ := hys
        have hGe2 := Lib.hid (hGe.out.mono (fun e w' (hh : GetSR ks k wr e w') => by unfold GetSR at hh; rw [hy] at hh; exact hh))
        have dz : decide ((i : Int) < 0) = false := by simp
        clear hy hGe
        go_upto_region 21 with (go_at_call 15; refine hGe2.out.mono ?_; rintro e w5 ⟨⟨xh, xo, xA, xc, xl⟩, rfl, hx, hxo, hb5⟩; simp only [Hd.val, Option.isSome_some])
        have b3 := B3.new w5 (.int .i64 xh) (.int .i64 xo) (.slice xA xl.length xc) 45
        have hbT := below_alloc' w5 (.cells #[.int .i64 xh, .int .i64 xo, .slice xA xl.length xc] 45)
        have hbA := hb5.trans (hbT.mono hb5.size)
        have hxW := hx.kept (fun k hk _ => hbT.block k hk) hbT.size
        have hcc : hs.length ≤ c := by
          obtain ⟨A', c', e1, e2, -⟩ := hKw.out.hv.form
          injection e1 with _ _ e1; omega
        have hwi : IntKind.i64.wrap ((i : Int) + 1) = (i : Int) + 1 := by rw [IntKind.wrap_i64]; omega
        obtain ⟨A1, hsm, hA1⟩ := sl_mid SHd A hs.length c i hi hcc
        have hA1 := Lib.hid hA1
        have hsame := Lib.hid (sameB_one (x := ⟨xh, xo, xA, xc, xl⟩) (y := hs[i]) (by rw [hxo]; exact hyo))
        generalize w5.alloc (.cells #[.int .i64 xh, .int .i64 xo, .slice xA xl.length xc] 45) = W at *
        have hWn := Lib.hid (Nat.le_trans hnw hbA.size)
        have hE := Lib.hid (fun V (hV : Below W.heap.size W V) => b3.step hV)
        have hX := Lib.hid (fun V (hV : Below W.heap.size W V) => hxW.kept (fun k hk _ => hV.block k hk) hV.size)
        have hKV := Lib.hid (fun V (hV : Below W.heap.size W V) => hKw.out.step hnw (hbA.trans (hV.mono hbA.size)))
        have hBV := Lib.hid (fun V (hV : Below W.heap.size W V) => hbn.out.trans ((hbA.trans (hV.mono hbA.size)).mono hnw))
        have hcl : hs[i].cells = ((hs.flatMap Hd.cells).drop (i * 3)).take 3 := by
          rw [← hd_drop, List.drop_eq_getElem_cons hi]; rfl
        have hcl := Lib.hid hcl
        clear b3 hbA hbT hxW hx hxo hyo x0 x1 x2 xf
        generalize ha0 : Act.mk _ _ = a0
        have e1 : a0.tmps[1]?.getD undef = .slice A hs.length c := by rw [← ha0]; rfl
        have e2 : a0.tmps[2]?.getD undef = .int .i64 next := by rw [← ha0]; rfl
        have e13 : a0.tmps[13]?.getD undef = .int .i64 (i : Int) := by rw [← ha0]; rfl
        have e19 : a0.tmps[19]?.getD undef = .pointer (some ⟨w5.heap.size, 0, none⟩) := by rw [← ha0]; rfl
        have e20 : a0.tmps[20]?.getD undef = .bool true := by rw [← ha0]; rfl
        have hz0 : a0.tmps.size = 251 := by rw [← ha0]; rfl
        have hha0 := Lib.hid ha0
        clear ha0
        refine wp_region_calm (fun jx_ => match jx_ with | 0 => SRel.is (.slice A hs.length c) | 1 => SRel.is (.int .i64 next) | 2 => SRel.is (.bool true) | 3 => SRel.is (.bool true) | 4 => SRel.is (.agg #[.int .i64 xh, .int .i64 xo, .slice xA xl.length xc]) | 5 => SRel.one3 (.int .i64 xh) (.int .i64 xo) (.slice xA xl.length xc) | 6 => SRel.is (.slice A hs.length c) | 7 => SRel.is (.int .i64 (i : Int)) | 8 => SRel.is (.int .i64 (i : Int)) | 9 => SRel.is (.int .i64 ((i : Int) + 1)) | 10 => SRel.is (.slice A1 1 (c - i)) | 11 => SRel.is (.bool true) | 12 => SRel.is (.bool true) | 13 => SRel.is (.slice A hs.length c) | 14 => SRel.is (.int .i64 next) | 15 => SRel.is (.bool true) | _ => SRel.any) (by kernel_rfl) (by kernel_rfl) (by kernel_rfl) (slotsOk_of hz0 (by kernel_rfl)) ⟨?_, ?_, ?_, ?_, ?_, ?_, ?_, ?_, ?_, ?_, ?_, ?_, ?_, ?_, ?_, ?_, trivial⟩ ?_
        · refine calm_step rfl fun a ω κ hb hu hc hK => ?_
          have h1 : a.tmps[1]?.getD undef = .slice A hs.length c := (hu 1 rfl).trans e1
          have hk := Lib.hid (fun w1 (h : Below ω.heap.size ω w1) => hK (.slice A hs.length c) w1 rfl h)
          clear hK hu hc
          go_simp
          exact hk.out _ (Below.refl _ _)
        · refine calm_step rfl fun a ω κ hb hu hc hK => ?_
          have h2 : a.tmps[2]?.getD undef = .int .i64 next := (hu 2 rfl).trans e2
          have hk := Lib.hid (fun w1 (h : Below ω.heap.size ω w1) => hK (.int .i64 next) w1 rfl h)
          clear hK hu hc
          go_simp
          exact hk.out _ (Below.refl _ _)
        · refine calm_step rfl fun a ω κ hb hu hc hK => ?_
          have h20 : a.tmps[20]?.getD undef = .bool true := (hu 20 rfl).trans e20
          have hk := Lib.hid (fun w1 (h : Below ω.heap.size ω w1) => hK (.bool true) w1 rfl h)
          clear hK hu hc
          go_simp
          exact hk.out _ (Below.refl _ _)
        · refine calm_step rfl fun a ω κ hb hu hc hK => ?_
          have h127 : a.tmps[127]?.getD undef = .bool true := hc 2 127 rfl rfl
          have hk := Lib.hid (fun w1 (h : Below ω.heap.size ω w1) => hK (.bool true) w1 rfl h)
          clear hK hu hc
          go_simp
          exact hk.out _ (Below.refl _ _)
        · refine calm_step_guard (g := 3) (b := true) (d := 128) rfl rfl (fun a w hc => hc 3 128 rfl rfl) fun a ω κ hb hu hc hK => ?_
          have h19 : a.tmps[19]?.getD undef = .pointer (some ⟨w5.heap.size, 0, none⟩) := (hu 19 rfl).trans e19
          have hk := Lib.hid (fun w1 (h : Below ω.heap.size ω w1) => hK (.agg #[.int .i64 xh, .int .i64 xo, .slice xA xl.length xc]) w1 rfl h)
          clear hK hu hc
          obtain ⟨e0, e1, e2, ef⟩ := (hE.out ω hb).c
          go_simp
          exact hk.out _ (Below.refl _ _)
        · refine calm_step_guard (g := 3) (b := true) (d := 128) rfl rfl (fun a w hc => hc 3 128 rfl rfl) fun a ω κ hb hu hc hK => ?_
          have h129 : a.tmps[129]?.getD undef = .agg #[.int .i64 xh, .int .i64 xo, .slice xA xl.length xc] := hc 4 129 rfl rfl
          have hk := Lib.hid (fun v w1 (hv : (SRel.one3 (.int .i64 xh) (.int .i64 xo) (.slice xA xl.length xc)).p v w1) (h : Below ω.heap.size ω w1) => hK v w1 hv h)
          clear hK hu hc
          go_simp
          exact hk.out _ _ ⟨ω.heap.size, rfl, B3.new ω _ _ _ _⟩ (below_alloc' _ _)
        · refine calm_step_guard (g := 3) (b := true) (d := 128) rfl rfl (fun a w hc => hc 3 128 rfl rfl) fun a ω κ hb hu hc hK => ?_
          have h1 : a.tmps[1]?.getD undef = .slice A hs.length c := (hu 1 rfl).trans e1
          have hk := Lib.hid (fun w1 (h : Below ω.heap.size ω w1) => hK (.slice A hs.length c) w1 rfl h)
          clear hK hu hc
          go_simp
          exact hk.out _ (Below.refl _ _)
        · refine calm_step_guard (g := 3) (b := true) (d := 128) rfl rfl (fun a w hc => hc 3 128 rfl rfl) fun a ω κ hb hu hc hK => ?_
          have h13 : a.tmps[13]?.getD undef = .int .i64 (i : Int) := (hu 13 rfl).trans e13
          have hk := Lib.hid (fun w1 (h : Below ω.heap.size ω w1) => hK (.int .i64 (i : Int)) w1 rfl h)
          clear hK hu hc
          go_simp
          exact hk.out _ (Below.refl _ _)
        · refine calm_step_guard (g := 3) (b := true) (d := 128) rfl rfl (fun a w hc => hc 3 128 rfl rfl) fun a ω κ hb hu hc hK => ?_
          have h13 : a.tmps[13]?.getD undef = .int .i64 (i : Int) := (hu 13 rfl).trans e13
          have hk := Lib.hid (fun w1 (h : Below ω.heap.size ω w1) => hK (.int .i64 (i : Int)) w1 rfl h)
          clear hK hu hc
          go_simp
          exact hk.out _ (Below.refl _ _)
        · refine calm_step_guard (g := 3) (b := true) (d := 128) rfl rfl (fun a w hc => hc 3 128 rfl rfl) fun a ω κ hb hu hc hK => ?_
          have h133 : a.tmps[133]?.getD undef = .int .i64 (i : Int) := hc 8 133 rfl rfl
          have hk := Lib.hid (fun w1 (h : Below ω.heap.size ω w1) => hK (.int .i64 ((i : Int) + 1)) w1 rfl h)
          clear hK hu hc
          go_simp
          exact hk.out _ (Below.refl _ _)
        · refine calm_step_guard (g := 3) (b := true) (d := 128) rfl rfl (fun a w hc => hc 3 128 rfl rfl) fun a ω κ hb hu hc hK => ?_
          have h131 : a.tmps[131]?.getD undef = .slice A hs.length c := hc 6 131 rfl rfl
          have h132 : a.tmps[132]?.getD undef = .int .i64 (i : Int) := hc 7 132 rfl rfl
          have h134 : a.tmps[134]?.getD undef = .int .i64 ((i : Int) + 1) := hc 9 134 rfl rfl
          have hk := Lib.hid (fun w1 (h : Below ω.heap.size ω w1) => hK (.slice A1 1 (c - i)) w1 rfl h)
          clear hK hu hc
          go_simp
          exact hk.out _ (Below.refl _ _)
        · refine calm_step_guard (g := 3) (b := true) (d := 128) rfl rfl (fun a w hc => hc 3 128 rfl rfl) fun a ω κ hb hu hc hK => ?_
          have h130 : (SRel.one3 (.int .i64 xh) (.int .i64 xo) (.slice xA xl.length xc)).p (a.tmps[130]?.getD undef) ω := hc 5 130 rfl rfl
          have h135 : a.tmps[135]?.getD undef = .slice A1 1 (c - i) := hc 10 135 rfl rfl
          have hk := Lib.hid (fun w1 (h : Below ω.heap.size ω w1) => hK (.bool true) w1 rfl h)
          clear hK hu hc
          obtain ⟨gb, e8, hb3⟩ := h130
          go_simp
          go_at_call 11
          have hKq := hKV.out ω hb
          have hXq := hX.out ω hb
          have hbq := hKq.hv.body hs[i] (List.getElem_mem hi)
          have hnω : n0 ≤ ω.heap.size := by have := hKq.hv; have := hb.size; have := hWn.out; omega
          refine (ref_SameHeld (some ⟨gb, 0, none⟩) A1 [⟨xh, xo, xA, xc, xl⟩] [hs[i]] 1 (c - i) ω ⟨hb3.rd, fun z hz => by simp at hz; subst hz; exact ⟨hXq.ats.ats, hXq.len, hXq.cap, hXq.lim⟩⟩ ⟨by
            show Rd ω ω.heap.size A1 (hs[i].cells ++ [])
            rw [List.append_nil, hcl.out]
            exact (hA1.out ω ω.heap.size _ (hd_flen hs) hKq.hv.rd).take, fun z hz => by simp at hz; subst hz; exact ⟨hbq.1.more hnω, hbq.2⟩⟩ (by simp)).mono ?_
          rintro e w8 ⟨rfl, hb8⟩
          rw [hsame.out]
          exact hk.out _ hb8
        · refine calm_step rfl fun a ω κ hb hu hc hK => ?_
          have h128 : a.tmps[128]?.getD undef = .bool true := hc 3 128 rfl rfl
          have h136 : a.tmps[136]?.getD undef = .bool true := hc 11 136 rfl rfl
          have hk := Lib.hid (fun w1 (h : Below ω.heap.size ω w1) => hK (.bool true) w1 rfl h)
          clear hK hu hc
          go_simp
          exact hk.out _ (Below.refl _ _)
        · refine calm_step rfl fun a ω κ hb hu hc hK => ?_
          have h125 : a.tmps[125]?.getD undef = .slice A hs.length c := hc 0 125 rfl rfl
          have hk := Lib.hid (fun w1 (h : Below ω.heap.size ω w1) => hK (.slice A hs.length c) w1 rfl h)
          clear hK hu hc
          go_simp
          exact hk.out _ (Below.refl _ _)
        · refine calm_step rfl fun a ω κ hb hu hc hK => ?_
          have h126 : a.tmps[126]?.getD undef = .int .i64 next := hc 1 126 rfl rfl
          have hk := Lib.hid (fun w1 (h : Below ω.heap.size ω w1) => hK (.int .i64 next) w1 rfl h)
          clear hK hu hc
          go_simp
          exact hk.out _ (Below.refl _ _)
        · refine calm_step rfl fun a ω κ hb hu hc hK => ?_
          have h137 : a.tmps[137]?.getD undef = .bool true := hc 12 137 rfl rfl
          have hk := Lib.hid (fun w1 (h : Below ω.heap.size ω w1) => hK (.bool true) w1 rfl h)
          clear hK hu hc
          go_simp
          exact hk.out _ (Below.refl _ _)
        · intro a1 w1 hb1 hu1 hsz1 hdf1 hc1
          have ha0 := hha0.out
          subst ha0
          have he := act_patch (n := 251) [false, false, false, false, false, false, false, false, false, false, true, true, true, false, false, false, false, false, false, false, false, false, false, false, false, false, false, false, false, false, false, false, false, false, false, false, false, false, false, false, false, false, false, false, false, false, false, false, false, false, false, false, false, false, false, false, false, false, false, false, false, false, false, false, false, false, false, false, false, false, false, false, false, false, false, false, false, false, false, false, false, false, false, false, false, false, false, false, false, false, false, false, false, false, false, false, false, false, false, false, false, false, false, false, false, false, false, false, false, false, false, false, false, false, false, false, false, false, false, false, false, false, false, false, false, true, true, true, true, true, true, true, true, true, true, true, true, true, false, false, false, false, false, false, false, false, false, false, false, false, false, false, false, false, false, false, false, false, false, false, false, false, false, false, false, false, false, false, false, false, false, false, false, false, false, false, false, false, false, false, false, false, false, false, false, false, false, false, false, false, false, false, false, false, false, false, false, false, false, false, false, false, false, false, false, false, false, false, false, false, false, false, false, false, false, false, false, false, false, false, false, false, false, false, false, false, false, false, false, false, false, false, false, false, false, false, false, false, false, false, false, false, false, false, false, false, false, false, false, false, false] rfl (by kernel_rfl) hu1 hsz1 hdf1
          simp only [patch, cond_true, cond_false, Nat.reduceAdd] at he
          have hkn10 : a1.tmps[10]?.getD undef = .slice A hs.length c := hc1 13 10 rfl
          have hkn11 : a1.tmps[11]?.getD undef = .int .i64 next := hc1 14 11 rfl
          have hkn12 : a1.tmps[12]?.getD undef = .bool true := hc1 15 12 rfl
          have hK7 := Lib.hid (hKV.out w1 hb1)
          have hB7 := Lib.hid (hBV.out w1 hb1)
          clear hb1 hu1 hsz1 hdf1 hc1 hz0 hha0 e1 e2 e13 e19 e20
          rw [he]
          clear he
          rw [hkn10]
          rw [hkn11]
          rw [hkn12]
          clear hkn10 hkn11 hkn12
          generalize a1.tmps[125]?.getD undef = x125 at *
          generalize a1.tmps[126]?.getD undef = x126 at *
          generalize a1.tmps[127]?.getD undef = x127 at *
          generalize a1.tmps[128]?.getD undef = x128 at *
          generalize a1.tmps[129]?.getD undef = x129 at *
          generalize a1.tmps[130]?.getD undef = x130 at *
          generalize a1.tmps[131]?.getD undef = x131 at *
          generalize a1.tmps[132]?.getD undef = x132 at *
          generalize a1.tmps[133]?.getD undef = x133 at *
          generalize a1.tmps[134]?.getD undef = x134 at *
          generalize a1.tmps[135]?.getD undef = x135 at *
          generalize a1.tmps[136]?.getD undef = x136 at *
          generalize a1.tmps[137]?.getD undef = x137 at *
          go_wp2
          go_ret3
          exact ⟨A, c, hs, ks, next, rfl, hK7.out, hB7.out⟩
    · have hjl : j < hs.length := by omega
      have hcl := hrd.out.kp (kp_of_below hb)
      obtain ⟨ad, rfl, hal, p0, p1, p2⟩ := hd_at hcl hjl
      have hk1 : hs[j].h = k → PlaceN hs k (j + 1) (j : Int) := fun e => .inr ⟨j, hjl, by omega, rfl, e⟩
      have hk2 : hs[j].h ≠ k → PlaceN hs k (j + 1) z := fun e => by
        rcases hz with ⟨h1, h2⟩ | ⟨i, hi, h1, h2, h3⟩
        · refine .inl ⟨h1, fun i hi hij => ?_⟩
          rcases Nat.lt_or_ge i j with h | h
          · exact h2 i hi h
          · have : i = j := by omega
            subst this; exact e
        · exact .inr ⟨i, hi, by omega, h2, h3⟩
      have hk1 := Lib.hid hk1
      have hk2 := Lib.hid hk2
      clear hH hkl hrise hrd
      generalize hs[j] = x at *
      obtain ⟨xh, xo, xA, xc, xl⟩ := x
      simp only at p0 p1 p2 hk1 hk2
      have hbA := below_alloc' wr (.cells #[.int .i64 xh, .int .i64 xo, .slice xA xl.length xc] 45)
      have h3A := Lib.hid (h3.step hbA)
      have hbB := Lib.hid (hb.trans (hbA.mono hb.size))
      obtain ⟨x0, x1, x2, xf⟩ := h3.c
      have x1A := (hbA.cell (p := ⟨w.heap.size, 1, none⟩) h3.lt).trans x1
      clear hz hcl h3 hbA
      by_cases he : xh = k
      · have hp := Lib.hid (hk1.out he)
        have hd : (xh == k) = true := by simpa using he
        clear he
        go_wp2
        go_roundw
        case rel => exact ⟨j + 1, by go_num, by omega, ⟨j, rfl, hp.out⟩, h3A.out, hbB.out⟩
        case measure => simp [Go.RowKit.intOf]; omega
      · have hp := Lib.hid (hk2.out he)
        have hd : (xh == k) = false := by simpa using he
        clear he
        go_wp2
        go_roundw
        case rel => exact ⟨j + 1, by go_num, by omega, ⟨z, rfl, hp.out⟩, h3A.out, hbB.out⟩
        case measure => simp [Go.RowKit.intOf]; omega
end Go.Proofs.Ytakooljbkjnilaa
namespace Go.Proofs.Ytakooljbkjnilaa
open Go.ChangeShapes Go.WideShapes Go.ChangeAt Go.RowKit
set_option maxHeartbeats 1000000
set_option maxRecDepth 100000
attribute [local go_sem] kp_refl kp_alloc kp_setCell kp_drew kp_drewN row_new row_old rowAt_new rowAt_old
theorem own_setS {w : World} {B g n c size : Nat} {e : TypeId} {xs : List Value} (h : w.ownsRow B e size (.slice (some ⟨g, 0, none⟩) n c) n xs) (j : Nat) (u : Value) : (w.setCell ⟨g, j, none⟩ u).ownsRow B e size (.slice (some ⟨g, 0, none⟩) n c) n (xs.set j u) := by
  refine ⟨by rw [List.length_set]; exact h.1, ?_⟩
  rcases h.2 with ⟨h1, _⟩ | ⟨g', cap, cur, h1, h2, h3, h4, h5, h6, h7⟩
  · cases h1
  · injection h1 with h1 _ h1c
    injection h1 with h1
    injection h1 with h1
    subst h1 h1c
    refine .inr ⟨g, c, cur.setIfInBounds j u, rfl, h2, ?_, h4, h5, by simp [h6], ?_⟩
    · simp only [World.setCell, Array.getElem?_modify]
      simp [h3]
    · rw [Array.toList_setIfInBounds, ← h7, List.take_set]
theorem flat_set (l : List Hd) (i : Nat) (x : Hd) (hi : i < l.length) (hh : x.h = l[i].h) (ho : x.o = l[i].o) : (l.flatMap Hd.cells).set (i * 3 + 2) (.slice x.A x.l.length x.cap) = (l.set i x).flatMap Hd.cells := by
  induction l generalizing i with
  | nil => simp at hi
  | cons y r ih =>
    cases i with
    | zero =>
      simp only [List.getElem_cons_zero] at hh ho
      simp [Hd.cells, hh, ho]
    | succ i =>
      have h2 : (i + 1) * 3 + 2 = (i * 3 + 2) + 3 := by omega
      rw [h2]
      simp only [List.flatMap_cons, List.set_cons_succ, Hd.cells, List.cons_append, List.nil_append, List.set_cons_succ]
      rw [← ih i (by simpa using hi) (by simpa using hh) (by simpa using ho)]
theorem KpAt.set {n0 : Nat} {w w' : World} {g bm g0 c i : Nat} {most next k : Int} {hs ks : List Hd} {x y : Hd} (h : KpAt n0 w g bm (.slice (some ⟨g0, 0, none⟩) hs.length c) most next hs ks) (hn : n0 ≤ w.heap.size) (hS : StAt w' g bm most next (setO ks k y)) (hT : StepS g bm ks (setO ks k y) w w') (hi : i < hs.length) (hik : hs[i].h = k)
    (hxh : x.h = hs[i].h) (hxo : x.o = hs[i].o) (hxy : x.ob = y.ob) (hx : Ats w n0 x.A x.l ∧ x.l.length ≤ x.cap ∧ x.cap ≤ maxLen ∧ x.l.length ≤ 4398046511104) :
    KpAt n0 (w'.setCell ⟨g0, i * 3 + 2, none⟩ (.slice x.A x.l.length x.cap)) g bm (.slice (some ⟨g0, 0, none⟩) (hs.set i x).length c) most next (hs.set i x) (setO ks k y) ∧ Below n0 w (w'.setCell ⟨g0, i * 3 + 2, none⟩ (.slice x.A x.l.length x.cap)) := by
  obtain ⟨h1, h2, h3⟩ := h.stepS hn hT
  have hg0 := h.hv.ownlt (j := g0) rfl
  have hB : Below n0 w (w'.setCell ⟨g0, i * 3 + 2, none⟩ (.slice x.A x.l.length x.cap)) := h3.setCell (p := ⟨g0, i * 3 + 2, none⟩) hg0.1 _
  have hg1 : g ≠ g0 := fun e => h.gn.2 (by rw [e]; rfl)
  have hb1 : bm ≠ g0 := fun e => h.bn.2 (by rw [e]; rfl)
  have hne : ∀ k, some k ≠ (Value.slice (some ⟨g0, 0, none⟩) hs.length c).ownBlock → k ≠ g0 := fun k hk e => hk (by rw [e]; rfl)
  have hot : ∀ k, k ≠ g0 → (w'.setCell ⟨g0, i * 3 + 2, none⟩ (.slice x.A x.l.length x.cap)).heap[k]? = w'.heap[k]? := fun k hk => Below.heap_setCell _ _ _ _ hk
  have hsz : (w'.setCell ⟨g0, i * 3 + 2, none⟩ (.slice x.A x.l.length x.cap)).heap.size = w'.heap.size := by simp
  have hlen := h.len
  rw [List.length_set]
  have hks : ∀ t (ht : t < ks.length), ks[t].ob = (hs[t]'(by omega)).ob := fun t ht => by
    have := congrArg (fun q => q[t]?) h.ob
    simp only [List.getElem?_map, List.getElem?_eq_getElem ht, List.getElem?_eq_getElem (show t < hs.length by omega), Option.map_some] at this
    injection this with this
    exact this.symm
  have hobs : (hs.set i x).map Hd.ob = (setO ks k y).map Hd.ob := by
    apply List.ext_getElem?
    intro t
    unfold setO
    rw [List.map_map, List.getElem?_map, List.getElem?_map, List.getElem?_set]
    by_cases ht : t < hs.length
    · rw [List.getElem?_eq_getElem (show t < ks.length by omega)]
      have hkt := hks t (by omega)
      have hkh : ks[t].h = hs[t].h := congrArg (·.1) hkt
      by_cases e : i = t
      · subst e
        simp [hi, hkh, hik, hxy]
      · have hne2 : ks[t].h ≠ k := by
          rw [hkh, ← hik]
          rcases Nat.lt_or_ge t i with e2 | e2
          · have := h.rise e2 hi; omega
          · have := h.rise (show i < t by omega) ht; omega
        simp [e, ht, hne2, hkt]
    · rw [List.getElem?_eq_none (show ks.length ≤ t by omega), if_neg (by omega), List.getElem?_eq_none (by omega)]
      rfl
  refine ⟨⟨?_, ⟨?_, fun z hz => ?_⟩, hobs, fun z hz => ?_, h.gn, h.bn, fun z hz => ?_, by rw [List.length_set]; exact h.ln, h.mo, h.nr⟩, hB⟩
  · obtain ⟨te, e1⟩ := hS.cells
    obtain ⟨es', clock, hb', F, hss, hD⟩ := hS.mp.own
    exact ⟨⟨te, (hot g hg1).trans e1⟩, ⟨⟨es', clock, (hot bm hb1).trans hb', F, hss, hD⟩, hS.mp.asc, hS.mp.wf⟩, fun z hz => ((h1 z hz).kept (fun k _ hp => hot k (hne k hp.2.1)) (by omega)).weaken fun k hk => hk.2.2⟩
  · rw [List.length_set, ← flat_set hs i x hi hxh hxo]
    exact own_setS h2.own _ _
  · rcases List.mem_or_eq_of_mem_set hz with e | e
    · exact ⟨(h.hv.body z e).1.kp (kp_of_below hB), (h.hv.body z e).2⟩
    · subst e; exact ⟨hx.1.kp (kp_of_below hB), hx.2⟩
  · exact ((h1 z hz).kept (fun k _ hp => hot k (hne k hp.2.1)) (by omega)).weaken fun k hk => ⟨⟨hk.1.1, by omega⟩, hk.2⟩
  · rcases setO_mem hz with e | e
    · exact h.nx z e
    · have e2 : z.h = hs[i].h := by rw [e]; have := congrArg (·.1) hxy; rw [← hxh]; exact this.symm
      have e3 : ks[i].h = hs[i].h := congrArg (·.1) (hks i (by omega))
      rw [e2, ← e3]
      exact h.nx _ (List.getElem_mem _)

set_option maxHeartbeats 8000000 in
theorem keeps_set (n0 g bm : Nat) (most next k : Int) (hs ks : List Hd) (A A2 : Option Addr) (c c2 : Nat) (al : List At) (w : World) (h : KpAt n0 w g bm (.slice A hs.length c) most next hs ks) (hn : n0 ≤ w.heap.size) (hA2 : Ats w n0 A2 al) (hc2 : al.length ≤ c2 ∧ c2 ≤ maxLen) (hal : al.length ≤ 4398046511104) (hkw : (Lit.int .i64 k).wf = true) :
    Calls Try.prog 10 #[.pointer (some ⟨g, 0, none⟩), .slice A hs.length c, .int .i64 next, .int .i64 most, .agg #[.int .i64 3, .int .i64 k, .slice A2 al.length c2]] w (KeepsR n0 g bm most w) := by
  have hrd := Lib.hid h.hv.rd
  have hH := Lib.hid h
  have hl : hs.length ≤ 16 := by have := h.ln; have := h.mo; omega
  have hkl := Lib.hid h.len
  have hrise := Lib.hid (fun i j (hij : i < j) (hj : j < hs.length) => h.rise hij hj)
  have hA2 := Lib.hid hA2
  clear h
  go_enter Try.func10, Try.ntmps10
  go_wp2
  go_loopw [13, 33] (fun v x wr => ∃ j : Nat, x = .int .i64 j ∧ j ≤ hs.length ∧ (∃ z, v = .int .i64 z ∧ PlaceN hs k j z) ∧ B3 wr w.heap.size (.int .i64 3) (.int .i64 k) (.slice A2 al.length c2) ∧ Below w.heap.size w wr) (fun _ x _ => hs.length - (Go.RowKit.intOf x).toNat)
  case atStart => exact ⟨0, rfl, Nat.zero_le _, ⟨-1, rfl, .inl ⟨rfl, fun i _ hi => absurd hi (by omega)⟩⟩, B3.new w _ _ _ _, below_alloc' _ _⟩
  case round =>
    obtain ⟨j, rfl, hj, ⟨z, rfl, hz⟩, h3, hb⟩ := hrel
    by_cases hjl : j = hs.length
    · subst hjl
      obtain ⟨x0, x1, x2, xf⟩ := h3.c
      have hzw := hb.size
      have hKw := Lib.hid (hH.out.step hn hb)
      have hA2r := Lib.hid (hA2.out.kp (kp_of_below (hb.mono hn)))
      have hbn := Lib.hid (hb.mono hn)
      have h3H := Lib.hid h3
      have hbH := Lib.hid hb
      have hglt := hKw.out.st.lt
      have hblt := hKw.out.st.mp.lt
      have hgn := hKw.out.gn.1
      have hnw : n0 ≤ wr.heap.size := by omega
      clear h3 hb
      have hkl2 : ks.length ≤ 100000 := by rw [hkl.out]; omega
      have hSe := Lib.hid (store_Set g bm most next k ks A2 al c2 wr hKw.out.st hkw (hA2r.out.more hnw) hal hkl2)
      rcases hz with ⟨rfl, hno⟩ | ⟨i, hi, -, rfl, hik⟩
      · have hnn : findO ks k = none := by
          have := find_ob hKw.out.ob k
          rw [place_none (.inl ⟨rfl, hno⟩)] at this
          simpa using this
        have hSe2 := Lib.hid (hSe.out.mono (fun e w' (hh : SetSR g bm most next k ks (al.map At.kv) wr e w') => by unfold SetSR at hh; rw [hnn] at hh; exact hh))
        clear hnn hno
        go_wp2_with (go_at_call 16; refine hSe2.out.mono ?_; rintro e w5 ⟨rfl, hS5, hT5⟩)
        go_ret3
        obtain ⟨q1, q2⟩ := hKw.out.same hnw hS5 hT5
        exact ⟨A, c, hs, ks, next, rfl, q1, hbn.out.trans q2⟩
      · have hys : ∃ y, findO ks k = some y ∧ y.ob = hs[i].ob := by
          have := find_ob hKw.out.ob k
          rw [place_some hi hik hrise.out] at this
          cases hf : findO ks k with
          | none => rw [hf] at this; cases this
          | some y => rw [hf] at this; exact ⟨y, rfl, by simpa using this⟩
        obtain ⟨y, hy, hyo⟩ := hys
        have hSe2 := Lib.hid (hSe.out.mono (fun e w' (hh : SetSR g bm most next k ks (al.map At.kv) wr e w') => by unfold SetSR at hh; rw [hy] at hh; exact hh))
        have hyo2 := Lib.hid (show y.o = hs[i].o from congrArg (·.2.1) hyo)
        obtain ⟨g0, hg0⟩ : ∃ g0, A = some ⟨g0, 0, none⟩ := by
          rcases hKw.out.hv.own.2 with ⟨h1, h2⟩ | ⟨g0, cap, cur, h1, _⟩
          · omega
          · injection h1 with h1; exact ⟨g0, h1⟩
        have dz : decide ((i : Int) < 0) = false := by simp
        have dz2 : decide ((i : Int) ≥ 0) = true := by simp
        subst hg0
        have hgi := hKw.out.gn.2
        have hgw := hH.out.st.lt
        have hbw := hH.out.st.mp.lt
        clear hy hSe hkl2
        go_upto_region 24 with (go_at_call 16; refine hSe2.out.mono ?_; rintro e w5 ⟨y2, rfl, hy2, hS5, hT5⟩)
        have hz5 := hT5.but.size
        have y3 := h3H.out.other (w' := w5) (hT5.but.block _ h3H.out.lt (by omega) (by omega))
        obtain ⟨y0, y1, y2, yf⟩ := y3.c
        have hv5 := (hKw.out.stepS hnw hT5).2.1
        obtain ⟨ad, had, hal2, p0, p1, p2⟩ := hd_at hv5.rd hi
        injection had with had
        subst had
        have hfz : ∀ o, w5.frozen? ⟨g0, o, none⟩ = false := fun o => by
          rcases hv5.own.2 with ⟨h1, h2⟩ | ⟨g1, cap, cur, h1, _, h3, _⟩
          · cases h1
          · injection h1 with h1; injection h1 with h1; injection h1 with h1; subst h1; simp [World.frozen?, h3]
        have hadd : (⟨g0, 0, none⟩ : Addr).add (i * 3) = ⟨g0, i * 3, none⟩ := by
          unfold Addr.add
          split
          · rename_i e; rw [e]
          · simp
        rw [hadd] at p2
        have hfin := Lib.hid (hKw.out.set (x := ⟨hs[i].h, hs[i].o, A2, c2, al⟩) hnw hS5 hT5 hi hik rfl rfl (by rw [hy2]; show (hs[i].h, hs[i].o, _) = _; rw [hik, hyo2.out]) ⟨hA2r.out, hc2.1, hc2.2, hal⟩)
        clear x0 x1 x2 xf hadd p0 p1 hv5
        go_wp2
        go_ret3
        obtain ⟨q1, q2⟩ := hfin.out
        exact ⟨some ⟨g0, 0, none⟩, c, _, _, next, by rw [List.length_set]; rfl, q1, hbn.out.trans q2⟩
    · have hjl : j < hs.length := by omega
      have hcl := hrd.out.kp (kp_of_below hb)
      obtain ⟨ad, rfl, hal, p0, p1, p2⟩ := hd_at hcl hjl
      have hk1 : hs[j].h = k → PlaceN hs k (j + 1) (j : Int) := fun e => .inr ⟨j, hjl, by omega, rfl, e⟩
      have hk2 : hs[j].h ≠ k → PlaceN hs k (j + 1) z := fun e => by
        rcases hz with ⟨h1, h2⟩ | ⟨i, hi, h1, h2, h3⟩
        · refine .inl ⟨h1, fun i hi hij => ?_⟩
          rcases Nat.lt_or_ge i j with h | h
          · exact h2 i hi h
          · have : i = j := by omega
            subst this; exact e
        · exact .inr ⟨i, hi, by omega, h2, h3⟩
      have hk1 := Lib.hid hk1
      have hk2 := Lib.hid hk2
      clear hH hkl hrise hrd
      generalize hs[j] = x at *
      obtain ⟨xh, xo, xA, xc, xl⟩ := x
      simp only at p0 p1 p2 hk1 hk2
      have hbA := below_alloc' wr (.cells #[.int .i64 xh, .int .i64 xo, .slice xA xl.length xc] 45)
      have h3A := Lib.hid (h3.step hbA)
      have hbB := Lib.hid (hb.trans (hbA.mono hb.size))
      obtain ⟨x0, x1, x2, xf⟩ := h3.c
      have x1A := (hbA.cell (p := ⟨w.heap.size, 1, none⟩) h3.lt).trans x1
      clear hz hcl h3 hbA
      by_cases he : xh = k
      · have hp := Lib.hid (hk1.out he)
        have hd : (xh == k) = true := by simpa using he
        clear he
        go_wp2
        go_roundw
        case rel => exact ⟨j + 1, by go_num, by omega, ⟨j, rfl, hp.out⟩, h3A.out, hbB.out⟩
        case measure => simp [Go.RowKit.intOf]; omega
      · have hp := Lib.hid (hk2.out he)
        have hd : (xh == k) = false := by simpa using he
        clear he
        go_wp2
        go_roundw
        case rel => exact ⟨j + 1, by go_num, by omega, ⟨z, rfl, hp.out⟩, h3A.out, hbB.out⟩
        case measure => simp [Go.RowKit.intOf]; omega
end Go.Proofs.Ytakooljbkjnilaa
namespace Go.Proofs.Ytakooljbkjnilaa
open Go.ChangeShapes Go.WideShapes Go.ChangeAt Go.RowKit
set_option maxHeartbeats 1000000
set_option maxRecDepth 100000
attribute [local go_sem] kp_refl kp_alloc kp_setCell kp_drew kp_drewN row_new row_old rowAt_new rowAt_old
theorem of_ob {hs ks : List Hd} (h : hs.map Hd.ob = ks.map Hd.ob) (k : Int) : (ofO hs k).map Hd.ob = (ofO ks k).map Hd.ob := by
  have e : ∀ l : List Hd, (ofO l k).map Hd.ob = (l.map Hd.ob).filter fun x => x.2.1 != k := fun l => by unfold ofO; rw [List.filter_map]; rfl
  rw [e, e, h]
theorem ofO_take {hs : List Hd} {k : Int} {j : Nat} (h : j < hs.length) : ofO (hs.take (j + 1)) k = ofO (hs.take j) k ++ (if hs[j].o != k then [hs[j]] else []) := by
  unfold ofO
  rw [take_snocH hs h, List.filter_append]
  congr 1
  cases e : (hs[j].o != k) <;> simp [e]
theorem ofO_len (l : List Hd) (k : Int) : (ofO l k).length ≤ l.length := List.length_filter_le _ _

set_option maxHeartbeats 8000000 in
theorem keeps_of (n0 g bm : Nat) (most next k : Int) (hs ks : List Hd) (A A2 : Option Addr) (c c2 : Nat) (al : List At) (w : World) (h : KpAt n0 w g bm (.slice A hs.length c) most next hs ks) (hn : n0 ≤ w.heap.size) (hA2 : Ats w n0 A2 al) (_hc2 : al.length ≤ c2 ∧ c2 ≤ maxLen) (_hal : al.length ≤ 4398046511104) (_hkw : (Lit.int .i64 k).wf = true) :
    Calls Try.prog 10 #[.pointer (some ⟨g, 0, none⟩), .slice A hs.length c, .int .i64 next, .int .i64 most, .agg #[.int .i64 5, .int .i64 k, .slice A2 al.length c2]] w (KeepsR n0 g bm most w) := by
  have hrd := Lib.hid h.hv.rd
  have hH := Lib.hid h
  have hl : hs.length ≤ 16 := by have := h.ln; have := h.mo; omega
  have hkl := Lib.hid h.len
  have hrise := Lib.hid (fun i j (hij : i < j) (hj : j < hs.length) => h.rise hij hj)
  have hA2 := Lib.hid hA2
  clear h
  go_enter Try.func10, Try.ntmps10
  go_wp2
  go_loopw [13, 33] (fun v x wr => ∃ j : Nat, x = .int .i64 j ∧ j ≤ hs.length ∧ (∃ z, v = .int .i64 z ∧ PlaceN hs k j z) ∧ B3 wr w.heap.size (.int .i64 5) (.int .i64 k) (.slice A2 al.length c2) ∧ Below w.heap.size w wr) (fun _ x _ => hs.length - (Go.RowKit.intOf x).toNat)
  case atStart => exact ⟨0, rfl, Nat.zero_le _, ⟨-1, rfl, .inl ⟨rfl, fun i _ hi => absurd hi (by omega)⟩⟩, B3.new w _ _ _ _, below_alloc' _ _⟩
  case round =>
    obtain ⟨j, rfl, hj, ⟨z, rfl, hz⟩, h3, hb⟩ := hrel
    by_cases hjl : j = hs.length
    · subst hjl
      obtain ⟨x0, x1, x2, xf⟩ := h3.c
      have hzw := hb.size
      have hKw := Lib.hid (hH.out.step hn hb)
      have hA2r := Lib.hid (hA2.out.kp (kp_of_below (hb.mono hn)))
      have hbn := Lib.hid (hb.mono hn)
      have h3H := Lib.hid h3
      have hbH := Lib.hid hb
      have hglt := hKw.out.st.lt
      have hblt := hKw.out.st.mp.lt
      have hgn := hKw.out.gn.1
      have hnw : n0 ≤ wr.heap.size := by omega
      clear h3 hb
      have hkl2 : ks.length ≤ 100000 := by rw [hkl.out]; omega
      clear hz
      obtain ⟨wa, hwa⟩ : ∃ wa, wa = wr := ⟨_, rfl⟩
      subst hwa
      cases hzd : decide (z < 0)
      all_goals
        go_wp2_with fail
        clear x0 x1 x2 xf
        go_loopw [23, 185] (fun v x wk => ∃ j : Nat, x = .int .i64 j ∧ j ≤ hs.length ∧ wk.ownsRow wa.heap.size 45 3 v (ofO (hs.take j) k).length ((ofO (hs.take j) k).flatMap Hd.cells) ∧ Below wa.heap.size wa wk) (fun _ x _ => hs.length - (Go.RowKit.intOf x).toNat)
        case atStart => exact ⟨0, rfl, Nat.zero_le _, World.ownsRow_nil _ _ _ _, Below.refl _ _⟩
        case round =>
          obtain ⟨j, rfl, hj, hO, hbk⟩ := hrel
          obtain ⟨wk, hwk⟩ : ∃ wk, wk = wr := ⟨_, rfl⟩
          subst hwk
          have hzk := hbk.size
          obtain ⟨Av, cv, rfl⟩ := own_formS hO
          have z3 := h3H.out.step hbk
          obtain ⟨y0, y1, y2, yf⟩ := z3.c
          have hofl := ofO_len (hs.take j) k
          rw [List.length_take] at hofl
          by_cases hjl : j = hs.length
          · subst hjl
            rw [List.take_length] at hO hofl
            rw [Nat.min_self] at hofl
            rw [List.take_length]
            have hle := congrArg List.length (of_ob hKw.out.ob k)
            rw [List.length_map, List.length_map] at hle
            have hDO := store_DropOf g bm most next k ks wk (hKw.out.st.step hbk) hkl2
            rw [hkl.out, ← hle] at hDO
            have hDO := Lib.hid hDO
            have hgk := hKw.out.st.lt
            have hbk2 := hKw.out.st.mp.lt
            have hfin := Lib.hid (fun V (hS : StAt V g bm most next (ofO ks k)) (hT : StepS g bm ks (ofO ks k) wk V) => hKw.out.fresh (v' := .slice Av (ofO hs k).length cv) hnw hS ((But.of_below hbk).trans hT.but) (fun x hx => (List.mem_filter.1 hx).1) (fun x hx => (List.mem_filter.1 hx).1) (of_ob hKw.out.ob k) hofl (own_keptS hO (fun i hi => hT.but.block i (hO.lt i hi).2 (by have := (hO.lt i hi).1; omega) (by have := (hO.lt i hi).1; omega))))
            clear hO hle
            generalize hn5 : (ofO hs k).length = n5 at *
            have hws : IntKind.i64.wrap ((hs.length : Int) - (n5 : Int)) = (hs.length : Int) - (n5 : Int) := by rw [IntKind.wrap_i64]; omega
            have hwn : wrap64 ((hs.length : Int) - (n5 : Int)) = (hs.length : Int) - (n5 : Int) := by unfold wrap64; omega
            have hn5 := Lib.hid hn5
            go_wp2_with (go_at_call 18; refine hDO.out.mono ?_; rintro e w7 ⟨rfl, hS7, hT7⟩)
            go_ret3
            obtain ⟨q1, q2⟩ := hfin.out w7 hS7 hT7
            refine ⟨Av, cv, ofO hs k, ofO ks k, next, ?_, ?_, hbn.out.trans q2⟩
            · rw [hn5.out]; simp
            · rw [hn5.out]; exact q1
          · have hjl : j < hs.length := by omega
            have hcl := hrd.out.kp (kp_of_below (hbH.out.trans (hbk.mono hzw)))
            obtain ⟨ad, rfl, hal2, p0, p1, p2⟩ := hd_at hcl hjl
            have htk := ofO_take (k := k) hjl
            clear hcl
            generalize hs[j] = x at *
            obtain ⟨xh, xo, xA, xc, xl⟩ := x
            simp only at p0 p1 p2 htk
            have hbA := below_alloc' wk (.cells #[.int .i64 xh, .int .i64 xo, .slice xA xl.length xc] 45)
            have b3 := B3.new wk (.int .i64 xh) (.int .i64 xo) (.slice xA xl.length xc) 45
            have zA := z3.step hbA
            have hOA := own_keptS hO (fun i hi => hbA.block i (hO.lt i hi).2)
            have hbX := Lib.hid (hbk.trans (hbA.mono hzk))
            have hszW : wk.heap.size + 1 = (wk.alloc (.cells #[.int .i64 xh, .int .i64 xo, .slice xA xl.length xc] 45)).heap.size := by simp
            clear y0 y1 y2 yf z3 hO
            go_upto_region 37 with (fail)
            generalize wk.alloc (.cells #[.int .i64 xh, .int .i64 xo, .slice xA xl.length xc] 45) = W at *
            obtain ⟨r0, r1, r2, rf⟩ := b3.c
            obtain ⟨s0, s1, s2, sf⟩ := zA.c
            cases hxo : (xo != k)
            · rw [hxo] at htk
              have htk := Lib.hid htk
              have hOH := Lib.hid hOA
              clear hOA zA b3
              go_wp2
              go_roundw
              case rel => exact ⟨j + 1, by go_num, by omega, by rw [htk.out]; simpa using hOH.out, hbX.out⟩
              case measure => simp [Go.RowKit.intOf]; omega
            · rw [hxo, if_pos rfl] at htk
              have htk := Lib.hid htk
              have hV := below_alloc' W (.cells #[.int .i64 xh, .int .i64 xo, .slice xA xl.length xc] 45)
              have hO5 := Lib.hid (own_keptS hOA (fun i hi => hV.block i (hOA.lt i hi).2))
              have hltO := hOA.lt
              have hbY := Lib.hid (hbX.out.trans (hV.mono (by omega)))
              clear zA b3 hOA hV
              go_wp2_with (at_builtin; go_must (refine wpList_app (v := .slice Av (ofO (hs.take j) k).length cv) (n := (ofO (hs.take j) k).length) (xs := (ofO (hs.take j) k).flatMap Hd.cells) rfl (.tmp 194) (.tmp 196) 27 rfl SHd (by go_simp) hO5.out (A := some ⟨W.heap.size, 0, none⟩) (c := 1) (by go_simp) (m := 1) (news := [.int .i64 xh, .int .i64 xo, .slice xA xl.length xc]) rfl (Rd.of_blk (g := W.heap.size) (blk_new _ _ rfl) (Nat.lt_succ_self _)) (by intro u hu; simp at hu; rcases hu with rfl | rfl | rfl <;> rfl) (by unfold maxLen; omega) (by omega) (by simp; omega) ?_); intro v2 w6 hO6 hg6 hat6; clear hat6)
              have hr2 : ∃ i : Nat, Value.int .i64 ((j : Int) + 1) = Value.int .i64 (i : Int) ∧ i ≤ hs.length ∧ w6.ownsRow wa.heap.size 45 3 v2 (ofO (hs.take i) k).length ((ofO (hs.take i) k).flatMap Hd.cells) ∧ Below wa.heap.size wa w6 := by
                refine ⟨j + 1, rfl, by omega, ?_, hbY.out.grown hg6 (by simp; omega) (fun i hi => (hltO i hi).1)⟩
                rw [htk.out, List.length_append, List.flatMap_append]
                exact hO6
              have hr2 := Lib.hid hr2
              go_roundw
              case rel => first | exact hr2.out | exact ⟨_, _, _, _, _, _, _, _, _, _, _, _, _, _, _, _, hr2.out, rfl⟩
              case measure => simp [Go.RowKit.intOf]; omega
    · have hjl : j < hs.length := by omega
      have hcl := hrd.out.kp (kp_of_below hb)
      obtain ⟨ad, rfl, hal, p0, p1, p2⟩ := hd_at hcl hjl
      have hk1 : hs[j].h = k → PlaceN hs k (j + 1) (j : Int) := fun e => .inr ⟨j, hjl, by omega, rfl, e⟩
      have hk2 : hs[j].h ≠ k → PlaceN hs k (j + 1) z := fun e => by
        rcases hz with ⟨h1, h2⟩ | ⟨i, hi, h1, h2, h3⟩
        · refine .inl ⟨h1, fun i hi hij => ?_⟩
          rcases Nat.lt_or_ge i j with h | h
          · exact h2 i hi h
          · have : i = j := by omega
            subst this; exact e
        · exact .inr ⟨i, hi, by omega, h2, h3⟩
      have hk1 := Lib.hid hk1
      have hk2 := Lib.hid hk2
      clear hH hkl hrise hrd
      generalize hs[j] = x at *
      obtain ⟨xh, xo, xA, xc, xl⟩ := x
      simp only at p0 p1 p2 hk1 hk2
      have hbA := below_alloc' wr (.cells #[.int .i64 xh, .int .i64 xo, .slice xA xl.length xc] 45)
      have h3A := Lib.hid (h3.step hbA)
      have hbB := Lib.hid (hb.trans (hbA.mono hb.size))
      obtain ⟨x0, x1, x2, xf⟩ := h3.c
      have x1A := (hbA.cell (p := ⟨w.heap.size, 1, none⟩) h3.lt).trans x1
      clear hz hcl h3 hbA
      by_cases he : xh = k
      · have hp := Lib.hid (hk1.out he)
        have hd : (xh == k) = true := by simpa using he
        clear he
        go_wp2
        go_roundw
        case rel => exact ⟨j + 1, by go_num, by omega, ⟨j, rfl, hp.out⟩, h3A.out, hbB.out⟩
        case measure => simp [Go.RowKit.intOf]; omega
      · have hp := Lib.hid (hk2.out he)
        have hd : (xh == k) = false := by simpa using he
        clear he
        go_wp2
        go_roundw
        case rel => exact ⟨j + 1, by go_num, by omega, ⟨z, rfl, hp.out⟩, h3A.out, hbB.out⟩
        case measure => simp [Go.RowKit.intOf]; omega
end Go.Proofs.Ytakooljbkjnilaa
