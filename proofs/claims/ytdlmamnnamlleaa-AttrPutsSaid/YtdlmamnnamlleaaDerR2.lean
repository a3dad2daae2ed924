/- Contracts of der.Read, and of the document's ReadItems and SameItems. -/
import Derived.Test.YtdlmamnnamlleaaDerR
import Derived.Deep.DeepMust
namespace Go.Proofs.Ytdlmamnnamlleaa
open Go.ChangeShapes Go.WideShapes Go.ChangeAt Go.RowKit

attribute [local go_sem] kp_refl kp_alloc kp_setCell kp_drew kp_drewN row_new row_old rowAt_new rowAt_old bs_get

def It.pair (x : It) : UInt8 × List UInt8 := (x.tag, x.body)

def readL : Nat → List UInt8 → List (UInt8 × List UInt8) → List (UInt8 × List UInt8) × Int
  | _, [], acc => (acc, 0)
  | 0, _ :: _, _ => ([], 0)
  | f + 1, b :: r, acc =>
    if acc.length = 200 then ([], 2)
    else if (firstS (b :: r)).2.2 ≠ 0 then ([], (firstS (b :: r)).2.2)
    else readL f ((b :: r).drop (firstS (b :: r)).2.1) (acc ++ [(firstS (b :: r)).1])
def readS (b : List UInt8) : List (UInt8 × List UInt8) × Int := if 65536 < b.length then ([], 2) else readL b.length b []

theorem firstS_ok (b : List UInt8) (h : (firstS b).2.2 = 0) : 1 ≤ (firstS b).2.1 ∧ (firstS b).2.1 ≤ b.length := by
  cases b with
  | nil => simp [firstS] at h
  | cons t r =>
    simp only [firstS] at h ⊢
    split
    · rename_i g; rw [if_pos g] at h; exact absurd h g
    · rename_i g
      rw [if_neg g] at h
      have hk := (lenD_ok r (by simpa using g)).1
      split
      · rename_i g1; rw [if_pos g1] at h; simp at h
      · rename_i g1
        rw [if_neg g1] at h
        split
        · rename_i g2; rw [if_pos g2] at h; simp at h
        · rename_i g2
          simp at g2 ⊢
          omega

/-- Items of the call's own, one behind the other. -/
structure ItsOwn (B : Nat) (w : World) (v : Value) (l : List It) : Prop where
  own : w.ownsRow B 162 2 v l.length (l.flatMap It.cells)
  body : ∀ x ∈ l, Rd w w.heap.size x.A (bytesV x.body) ∧ x.body.length ≤ x.cap ∧ x.cap ≤ maxLen ∧ ∀ a, x.A = some a → B ≤ a.block ∧ a.block < w.heap.size ∧ some a.block ≠ v.ownBlock

theorem rd_grown {w w' : World} {B : Nat} {A : Option Addr} {xs : List Value} {row : Option Nat} (h : Rd w B A xs) (hg : w.grownBy w' row) (hB : B ≤ w.heap.size) (hne : ∀ a, A = some a → some a.block ≠ row) : Rd w' B A xs := fun j u hu => by
  obtain ⟨ad, e, hl, hc⟩ := h j u hu
  exact ⟨ad, e, hl, (World.cell?_of_block (hg.block (ad.add j).block (by rw [addr_block]; omega) (by rw [addr_block]; exact hne ad e))).trans hc⟩

theorem Rd.lt {w : World} {B : Nat} {a : Addr} {xs : List Value} (h : Rd w B (some a) xs) (hx : 0 < xs.length) : a.block < B := by
  obtain ⟨ad, e, hl, -⟩ := h 0 xs[0] (List.getElem?_eq_getElem hx)
  injection e with e; subst e; exact hl

/-- One item more. -/
theorem ItsOwn.step {B : Nat} {w w1 W w2 : World} {v v2 : Value} {l : List It} {x : It} (I : ItsOwn B w v l) (h1 : Below w.heap.size w w1) (hx : Rd w1 w1.heap.size x.A (bytesV x.body)) (hc : x.body.length ≤ x.cap ∧ x.cap ≤ maxLen)
    (hfar : ∀ a, x.A = some a → w.heap.size ≤ a.block) (hB : B ≤ w.heap.size) (h2 : Below w1.heap.size w1 W) (hg : W.grownBy w2 v.ownBlock) (hat : v2.ownBlock = v.ownBlock ∨ v2.ownBlock = some W.heap.size)
    (hown : w2.ownsRow B 162 2 v2 (l.length + 1) (l.flatMap It.cells ++ x.cells)) (hlt : ∀ a, x.A = some a → a.block < w1.heap.size) : ItsOwn B w2 v2 (l ++ [x]) := by
  have hv : ∀ g, v.ownBlock = some g → g < w.heap.size := fun g hg => (I.own.lt g hg).2
  have hs1 := h1.size
  have hs2 := h2.size
  have hs3 := hg.size
  refine ⟨by simpa using hown, fun y hy => ?_⟩
  rcases List.mem_append.1 hy with hy | hy
  · obtain ⟨r1, r2, r3, r4⟩ := I.body y hy
    refine ⟨?_, r2, r3, fun a ha => ⟨(r4 a ha).1, by have := (r4 a ha).2.1; omega, ?_⟩⟩
    · have q1 := (r1.below h1).below (h2.mono hs1)
      exact (rd_grown q1 hg (by omega) (fun a ha => (r4 a ha).2.2)).more (by omega)
    · rcases hat with e | e
      · rw [e]; exact (r4 a ha).2.2
      · rw [e]
        intro e2
        injection e2 with e2
        have := (r4 a ha).2.1
        omega
  · have hyx : y = x := by simpa using hy
    subst hyx
    refine ⟨?_, hc.1, hc.2, fun a ha => ⟨by have := hfar a ha; omega, by have := hlt a ha; omega, ?_⟩⟩
    · exact (rd_grown (hx.below h2) hg (by omega) (fun a ha e => by have h5 := hv _ e.symm; have := hfar a ha; omega)).more (by omega)
    · have h6 := hlt a ha
      have h7 := hfar a ha
      rcases hat with e | e
      · rw [e]; intro e2; have := hv _ e2.symm; omega
      · rw [e]; intro e2; injection e2 with e2; omega
/-! ### Read -/
theorem SIt : SlT Try.prog 160 162 2 32 := SlT.mk' Try.underlying160 (by kernel_rfl) (by omega)

def Rds (w : World) (b : List UInt8) (e : Ending) (w' : World) : Prop :=
  ∃ (A : Option Addr) (l : List It) (c : Nat), e = .returned (.tuple #[.slice A l.length c, .int .i64 (readS b).2]) ∧ Its w' w'.heap.size A l ∧ l.map It.pair = (readS b).1 ∧ l.length ≤ maxLen ∧ Below w.heap.size w w'

def vlen : Value → Nat
  | .slice _ n _ => n
  | .string s => s.size
  | _ => 0

theorem rds_err {w w' : World} {b : List UInt8} {z p : Int} (h : readS b = ([], z)) (hz : z = p) (hb : Below w.heap.size w w') : Rds w b (.returned (.tuple #[.slice none 0 0, .int .i64 p])) w' := by
  subst hz
  exact ⟨none, [], 0, by rw [h]; rfl, ⟨Rd.nil, fun x hx => by simp at hx⟩, by rw [h]; rfl, by simp [maxLen], hb⟩

theorem rds_ok {w w' : World} {b : List UInt8} {A : Option Addr} {l : List It} {c : Nat} {p : Int} (h : readS b = (l.map It.pair, 0)) (hz : p = 0) (hi : Its w' w'.heap.size A l) (hl : l.length ≤ maxLen) (hb : Below w.heap.size w w') :
    Rds w b (.returned (.tuple #[.slice A l.length c, .int .i64 p])) w' := by
  subst hz
  exact ⟨A, l, c, by rw [h], hi, by rw [h], hl, hb⟩

theorem ItsOwn.its {B : Nat} {w : World} {v : Value} {l : List It} (h : ItsOwn B w v l) : ∃ A c, v = .slice A l.length c ∧ Its w w.heap.size A l := by
  obtain ⟨A, c, rfl⟩ := own_form h.own
  exact ⟨A, c, rfl, Rd.of_own h.own, fun x hx => ⟨(h.body x hx).1, (h.body x hx).2.1, (h.body x hx).2.2.1⟩⟩

theorem own_below {w w1 : World} {B : Nat} {e : TypeId} {size n : Nat} {v : Value} {xs : List Value} (h : w.ownsRow B e size v n xs) (hb : Below w.heap.size w w1) : w1.ownsRow B e size v n xs := by
  refine h.kept (row := none) ⟨hb.os, hb.tape, hb.output, hb.size, fun i hi _ => hb.block i hi⟩ ?_
  cases v.ownBlock with
  | none => exact .inl rfl
  | some g => exact .inr (by simp)

theorem readL_stop {f : Nat} {b : UInt8} {r : List UInt8} {acc : List (UInt8 × List UInt8)} (hf : (b :: r).length ≤ f) (h : acc.length = 200) : readL f (b :: r) acc = ([], 2) := by
  cases f with
  | zero => simp at hf
  | succ f => simp only [readL, if_pos h]
theorem readL_err {f : Nat} {b : UInt8} {r : List UInt8} {acc : List (UInt8 × List UInt8)} {x : UInt8 × List UInt8} {n : Nat} {z : Int} (hf : (b :: r).length ≤ f) (h : ¬ acc.length = 200) (hF : firstS (b :: r) = (x, n, z)) (hz : z ≠ 0) : readL f (b :: r) acc = ([], z) := by
  cases f with
  | zero => simp at hf
  | succ f => simp only [readL, if_neg h, hF, if_pos hz]
theorem readL_next {f : Nat} {b : UInt8} {r : List UInt8} {acc : List (UInt8 × List UInt8)} {x : UInt8 × List UInt8} {n : Nat} (hf : (b :: r).length ≤ f) (h : ¬ acc.length = 200) (hF : firstS (b :: r) = (x, n, 0)) :
    readL f (b :: r) acc = readL (f - 1) ((b :: r).drop n) (acc ++ [x]) := by
  cases f with
  | zero => simp at hf
  | succ f => simp only [readL, if_neg h, hF]; rfl
theorem readL_end {f : Nat} {acc : List (UInt8 × List UInt8)} : readL f [] acc = (acc, 0) := by cases f <;> rfl

set_option maxRecDepth 100000 in
set_option maxHeartbeats 8000000 in
theorem der_Read (A0 : Option Addr) (b0 : List UInt8) (c0 : Nat) (w : World) (h : Rd w w.heap.size A0 (bytesV b0)) (hn : b0.length ≤ c0) (hc : c0 ≤ maxLen) :
    Calls Try.prog 106 #[.slice A0 b0.length c0] w (Rds w b0) := by
  have hc' := hc
  unfold maxLen at hc
  by_cases h0 : 65536 < b0.length
  · have hp : readS b0 = ([], 2) := by simp [readS, h0]
    have h0' : (65536 : Int) < (b0.length : Int) := by omega
    go_enter Try.func106, Try.ntmps106
    go_wp2
    go_returns
    exact rds_err hp rfl (Below.refl _ _)
  · have hp : Hid (readS b0 = readL b0.length b0 []) := by show _ = _; simp [readS, h0]
    have h0' : ¬ (65536 : Int) < (b0.length : Int) := by omega
    go_enter Try.func106, Try.ntmps106
    go_wp2
    go_loopw [0, 4] (fun b v wr => ∃ (f : Nat) (bs : List UInt8) (A : Option Addr) (c : Nat) (l : List It), b = .slice A bs.length c ∧ bs.length ≤ c ∧ Hid (c ≤ maxLen) ∧ bs.length ≤ f ∧ bs.length ≤ 65536 ∧ Hid (readS b0 = readL f bs (l.map It.pair)) ∧
        Rd wr w.heap.size A (bytesV bs) ∧ ItsOwn w.heap.size wr v l ∧ l.length ≤ 200 ∧ Below w.heap.size w wr ∧ w.heap.size ≤ wr.heap.size) (fun b _ _ => vlen b)
    case atStart => exact ⟨b0.length, b0, A0, c0, [], rfl, hn, hc', Nat.le_refl _, by omega, hp, h, ⟨World.ownsRow_nil _ _ _ _, fun x hx => by simp at hx⟩, by simp, Below.refl _ _, Nat.le_refl _⟩
    case round =>
      obtain ⟨f, bs, A, c, l, rfl, hbc, hcm, hbf, hb6, hread, hr, hI, hl2, hb, hz⟩ := hrel
      obtain ⟨A4, c4, hv4⟩ := own_form hI.own
      subst hv4
      cases bs with
      | nil =>
        go_wp2
        go_returns
        obtain ⟨A5, c5, hv5, hits⟩ := hI.its
        injection hv5 with hv5
        subst hv5
        exact rds_ok (hread.out.trans readL_end) rfl hits (by unfold maxLen; omega) hb
      | cons t r =>
        simp only [List.length_cons] at hbc hbf hb6
        by_cases hl : l.length = 200
        · have hp2 : Hid (readS b0 = ([], 2)) := by show _ = _; rw [hread.out]; exact readL_stop (by simpa using hbf) (by simpa using hl)
          have hl' : ((l.length : Int) == 200) = true := by rw [beq_iff_eq]; omega
          have hlh := Lib.hid hl
          clear hl
          go_wp2
          go_returns
          exact rds_err hp2.out rfl hb
        · have hl' : ((l.length : Int) == 200) = false := by rw [beq_eq_false_iff_ne]; omega
          have hcon := der_First A (t :: r) c wr (hr.more hz) (by simpa using hbc) hcm.out
          have hfok := firstS_ok (t :: r)
          unfold Fst at hcon
          generalize hF : firstS (t :: r) = F at *
          obtain ⟨⟨tg, bd⟩, n, z⟩ := F
          simp only [List.length_cons] at hcon hfok
          have HC := Lib.hid hcon
          have HF := Lib.hid hF
          clear hcon hF
          by_cases hz0 : z = 0
          · subst hz0
            have hk := hfok rfl
            have hnext : Hid (readS b0 = readL (f - 1) ((t :: r).drop n) (l.map It.pair ++ [(tg, bd)])) := by show _ = _; rw [hread.out]; exact readL_next (by simpa using hbf) (by simpa using hl) HF.out
            obtain ⟨A2, e2, r2⟩ := sl_from SB A (r.length + 1) c (r.length + 1 - n) (n : Int) (by omega) (by omega) (by simp) hbc
            have hr2 := fun W => r2 W w.heap.size (bytesV (t :: r)) (by simp [bytesV])
            clear r2
            have hd : (bytesV (t :: r)).drop ((n : Int).toNat * 1) = bytesV ((t :: r).drop n) := by simp [bytesV]
            rw [hd] at hr2
            have hdl : ((t :: r).drop n).length = r.length + 1 - n := by simp
            generalize (t :: r).drop n = bs2 at *
            have HR2 := Lib.hid hr2
            have HDL := Lib.hid hdl
            have hcn : (n : Int).toNat = n := by omega
            clear hr2 hfok hdl hd
            have hn1 : (n : Int) ≤ (r.length : Int) + 1 := by omega
            go_wp2_with fail
            refine HC.out.mono ?_
            rintro e w1 ⟨A1, c1, rfl, hr1, hc1, hc2, hfar, hb1⟩
            have hs1 := hb1.size
            have hown1 : w1.ownsRow w.heap.size 162 2 (.slice A4 l.length c4) l.length (l.flatMap It.cells) := own_below hI.own hb1
            go_wp2_with (first
              | (at_builtin; go_must (refine wpList_app rfl (.tmp 26) (.tmp 28) 160 rfl SIt rfl ((hown1.alloc _).alloc _) rfl (m := 1) (news := [u8v tg, .slice A1 bd.length c1]) rfl (Rd.of_blk (cs := #[u8v tg, .slice A1 bd.length c1]) (blk_new _ _ (by simp)) (B := w1.heap.size + 2) (by omega)) (by simp [Value.oneCell']) (by unfold maxLen; omega) (by omega) (by simp; omega) ?_); intro v2 w2 hown2 hg2 hat2))
            have hbW : Below w1.heap.size w1 ((w1.alloc (.cells #[u8v tg, .slice A1 bd.length c1] 162)).alloc (.cells #[u8v tg, .slice A1 bd.length c1] 162)) := ((Below.refl _ _).alloc (Nat.le_refl _) _).alloc (by simp) _
            have hb2 : Below w.heap.size w w2 := ((below_step hb1 hb (Nat.le_refl _)).trans (hbW.mono (by omega))).grown hg2 (by simp; omega) (fun g hg => (hown1.lt g hg).1)
            have hI2 := ItsOwn.step (x := ⟨tg, A1, c1, bd⟩) hI hb1 hr1 ⟨hc1, hc2⟩ (fun a ha => (hfar a ha).1) hz hbW hg2 hat2 hown2 (fun a ha => (hfar a ha).2)
            have hz2 : w.heap.size ≤ w2.heap.size := hb2.size
            clear hg2 hat2 hown2 hbW
            go_roundw
            case rel =>
              exact ⟨f - 1, bs2, A2, c - n, l ++ [⟨tg, A1, c1, bd⟩], by rw [HDL.out], by rw [HDL.out]; omega, by show _ ≤ _; have := hcm.out; omega, by rw [HDL.out]; omega, by rw [HDL.out]; omega, by show _ = _; rw [hnext.out]; simp [It.pair],
                HR2.out w2 (hr.kp (fun k hk => (hb2.block k hk).trans (hb.block k hk).symm)), hI2, by simp; omega, hb2, hz2⟩
            case measure => simp [vlen]; omega
          · have hp2 : Hid (readS b0 = ([], z)) := by show _ = _; rw [hread.out]; exact readL_err (by simpa using hbf) (by simpa using hl) HF.out hz0
            have hz1 : (z == 0) = false := by simpa using hz0
            clear hfok hz0
            go_wp2_with fail
            refine HC.out.mono ?_
            rintro e w1 ⟨A1, c1, rfl, hr1, hc1, hc2, hfar, hb1⟩
            go_wp2
            go_returns
            exact rds_err hp2.out rfl (by repeat' (first | (with_reducible exact below_step hb1 hb (Nat.le_refl _)) | (with_reducible refine Below.alloc ?_ ?_ _) | (have := hb1.size; simp; omega)))
set_option maxRecDepth 100000 in
set_option maxHeartbeats 8000000 in
theorem ref_ReadItems (b0 : List UInt8) (w : World) (hc : b0.length ≤ maxLen) :
    Calls Try.prog 107 #[.string ⟨b0.toArray⟩] w (Rds w b0) := by
  unfold maxLen at hc
  by_cases h0 : 65536 < b0.length
  · have hp : readS b0 = ([], 2) := by simp [readS, h0]
    have h0' : (65536 : Int) < (b0.length : Int) := by omega
    go_enter Try.func107, Try.ntmps107
    go_wp2
    go_returns
    exact rds_err hp rfl (Below.refl _ _)
  · have hp : Hid (readS b0 = readL b0.length b0 []) := by show _ = _; simp [readS, h0]
    have h0' : ¬ (65536 : Int) < (b0.length : Int) := by omega
    go_enter Try.func107, Try.ntmps107
    go_wp2
    go_loopw [0, 4] (fun b v wr => ∃ (f : Nat) (bs : List UInt8) (l : List It), b = .string ⟨bs.toArray⟩ ∧ bs.length ≤ f ∧ bs.length ≤ 65536 ∧ Hid (readS b0 = readL f bs (l.map It.pair)) ∧
        ItsOwn w.heap.size wr v l ∧ l.length ≤ 200 ∧ Below w.heap.size w wr ∧ w.heap.size ≤ wr.heap.size) (fun b _ _ => vlen b)
    case atStart => exact ⟨b0.length, b0, [], rfl, Nat.le_refl _, by omega, hp, ⟨World.ownsRow_nil _ _ _ _, fun x hx => by simp at hx⟩, by simp, Below.refl _ _, Nat.le_refl _⟩
    case round =>
      obtain ⟨f, bs, l, rfl, hbf, hb6, hread, hI, hl2, hb, hz⟩ := hrel
      obtain ⟨A4, c4, hv4⟩ := own_form hI.own
      subst hv4
      cases bs with
      | nil =>
        go_wp2
        go_returns
        obtain ⟨A5, c5, hv5, hits⟩ := hI.its
        injection hv5 with hv5
        subst hv5
        exact rds_ok (hread.out.trans readL_end) rfl hits (by unfold maxLen; omega) hb
      | cons t r =>
        simp only [List.length_cons] at hbf hb6
        by_cases hl : l.length = 200
        · have hp2 : Hid (readS b0 = ([], 2)) := by show _ = _; rw [hread.out]; exact readL_stop (by simpa using hbf) (by simpa using hl)
          have hl' : (200 : Int) ≤ (l.length : Int) := by omega
          have hlh := Lib.hid hl
          clear hl
          go_wp2
          go_returns
          exact rds_err hp2.out rfl hb
        · have hl' : ¬ (200 : Int) ≤ (l.length : Int) := by omega
          have hcon := ref_FirstItem (t :: r) wr (by simp [maxLen]; omega)
          have hfok := firstS_ok (t :: r)
          unfold Fst at hcon
          generalize hF : firstS (t :: r) = F at *
          obtain ⟨⟨tg, bd⟩, n, z⟩ := F
          simp only [List.length_cons] at hfok
          have HC := Lib.hid hcon
          have HF := Lib.hid hF
          clear hcon hF
          by_cases hz0 : z = 0
          · subst hz0
            have hk := hfok rfl
            have hnext : Hid (readS b0 = readL (f - 1) ((t :: r).drop n) (l.map It.pair ++ [(tg, bd)])) := by show _ = _; rw [hread.out]; exact readL_next (by simpa using hbf) (by simpa using hl) HF.out
            have e2 := fun W => str_from (P := Try.prog) Try.underlying9 (t :: r) ((t :: r).drop n) (n : Int) (by omega) (by simp; omega) (by simp) W
            have hdl : ((t :: r).drop n).length = r.length + 1 - n := by simp
            generalize (t :: r).drop n = bs2 at *
            have HDL := Lib.hid hdl
            clear hfok hdl
            have hn1 : (n : Int) ≤ (r.length : Int) + 1 := by omega
            go_wp2_with fail
            refine HC.out.mono ?_
            rintro e w1 ⟨A1, c1, rfl, hr1, hc1, hc2, hfar, hb1⟩
            have hs1 := hb1.size
            have hown1 : w1.ownsRow w.heap.size 162 2 (.slice A4 l.length c4) l.length (l.flatMap It.cells) := own_below hI.own hb1
            go_wp2_with (first
              | (at_builtin; go_must (refine wpList_app rfl (.tmp 26) (.tmp 28) 160 rfl SIt rfl ((hown1.alloc _).alloc _) rfl (m := 1) (news := [u8v tg, .slice A1 bd.length c1]) rfl (Rd.of_blk (cs := #[u8v tg, .slice A1 bd.length c1]) (blk_new _ _ (by simp)) (B := w1.heap.size + 2) (by omega)) (by simp [Value.oneCell']) (by unfold maxLen; omega) (by omega) (by simp; omega) ?_); intro v2 w2 hown2 hg2 hat2))
            have hbW : Below w1.heap.size w1 ((w1.alloc (.cells #[u8v tg, .slice A1 bd.length c1] 162)).alloc (.cells #[u8v tg, .slice A1 bd.length c1] 162)) := ((Below.refl _ _).alloc (Nat.le_refl _) _).alloc (by simp) _
            have hb2 : Below w.heap.size w w2 := ((below_step hb1 hb (Nat.le_refl _)).trans (hbW.mono (by omega))).grown hg2 (by simp; omega) (fun g hg => (hown1.lt g hg).1)
            have hI2 := ItsOwn.step (x := ⟨tg, A1, c1, bd⟩) hI hb1 hr1 ⟨hc1, hc2⟩ (fun a ha => (hfar a ha).1) hz hbW hg2 hat2 hown2 (fun a ha => (hfar a ha).2)
            have hz2 : w.heap.size ≤ w2.heap.size := hb2.size
            clear hg2 hat2 hown2 hbW
            go_roundw
            case rel =>
              exact ⟨f - 1, bs2, l ++ [⟨tg, A1, c1, bd⟩], rfl, by rw [HDL.out]; omega, by rw [HDL.out]; omega, by show _ = _; rw [hnext.out]; simp [It.pair],
                hI2, by simp; omega, hb2, hz2⟩
            case measure => simp [vlen, ByteArray.size, HDL.out]; omega
          · have hp2 : Hid (readS b0 = ([], z)) := by show _ = _; rw [hread.out]; exact readL_err (by simpa using hbf) (by simpa using hl) HF.out hz0
            have hz1 : (z == 0) = false := by simpa using hz0
            clear hfok hz0
            go_wp2_with fail
            refine HC.out.mono ?_
            rintro e w1 ⟨A1, c1, rfl, hr1, hc1, hc2, hfar, hb1⟩
            go_wp2
            go_returns
            exact rds_err hp2.out rfl (by repeat' (first | (with_reducible exact below_step hb1 hb (Nat.le_refl _)) | (with_reducible refine Below.alloc ?_ ?_ _) | (have := hb1.size; simp; omega)))

/-! ### SameItems -/
def sameB (l m : List It) : Bool := decide (l.map It.pair = m.map It.pair)

theorem same_no_len {l m : List It} (h : ¬ l.length = m.length) : sameB l m = false := by
  simp only [sameB, decide_eq_false_iff_not]
  intro e
  have := congrArg List.length e
  simp at this; exact h this
theorem same_no_at {l m : List It} {k : Nat} (hk : k < l.length) (hk2 : k < m.length) (h : ¬ l[k].pair = m[k].pair) : sameB l m = false := by
  simp only [sameB, decide_eq_false_iff_not]
  intro e
  have h1 : (l.map It.pair)[k]? = (m.map It.pair)[k]? := by rw [e]
  simp [hk, hk2] at h1
  exact h h1

/-! ### The law -/
theorem Its.single {w : World} {B : Nat} {t : UInt8} {A : Option Addr} {c : Nat} {b : List UInt8} {g : Nat} (hg : w.heap[g]? = some (.cells #[u8v t, .slice A b.length c] 162)) (hB : g < B) (hr : Rd w B A (bytesV b)) (hc : b.length ≤ c ∧ c ≤ maxLen) :
    Its w B (some ⟨g, 0, none⟩) [⟨t, A, c, b⟩] := by
  refine ⟨?_, fun x hx => ?_⟩
  · exact Rd.of_blk hg hB
  · obtain rfl : x = ⟨t, A, c, b⟩ := by simpa using hx
    exact ⟨hr, hc⟩

end Go.Proofs.Ytdlmamnnamlleaa
