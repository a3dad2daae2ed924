/- Contracts of der.Write, and of the document's Items and ItemsText. -/
import Derived.Test.YtdlmamnnamlleaaFrame
import Derived.Test.YtdlmamnnamlleaaSl
import Derived.Outline
import Derived.Handy
import Derived.Lib.Hide
import Derived.Deep.DeepMust
import Derived.Deep.RegionHeld3
namespace Go.Proofs.Ytdlmamnnamlleaa
open Go.ChangeShapes Go.WideShapes Go.ChangeAt Go.RowKit

attribute [local go_sem] kp_refl kp_alloc kp_setCell kp_drew kp_drewN row_new row_old rowAt_new rowAt_old

/-- An item as it lies in memory: its tag, and its body's slice with what it reads. -/
structure It where
  tag : UInt8
  A : Option Addr
  cap : Nat
  body : List UInt8

def It.cells (x : It) : List Value := [u8v x.tag, .slice x.A x.body.length x.cap]

/-- A slice of items at A, below B. -/
structure Its (w : World) (B : Nat) (A : Option Addr) (l : List It) : Prop where
  cells : Rd w B A (l.flatMap It.cells)
  body : ∀ x ∈ l, Rd w B x.A (bytesV x.body) ∧ x.body.length ≤ x.cap ∧ x.cap ≤ maxLen

theorem Its.kp {w W : World} {B : Nat} {A : Option Addr} {l : List It} (h : Its w B A l) (hb : Kp B w W) : Its W B A l :=
  ⟨h.cells.kp hb, fun x hx => ⟨(h.body x hx).1.kp hb, (h.body x hx).2⟩⟩

theorem Its.more {w : World} {B B' : Nat} {A : Option Addr} {l : List It} (h : Its w B A l) (hB : B ≤ B') : Its w B' A l :=
  ⟨h.cells.more hB, fun x hx => ⟨(h.body x hx).1.more hB, (h.body x hx).2⟩⟩

theorem flat_cells (l : List It) (k : Nat) : (l.flatMap It.cells)[k * 2]? = (l[k]?).map (fun x => u8v x.tag) ∧ (l.flatMap It.cells)[k * 2 + 1]? = (l[k]?).map (fun x => .slice x.A x.body.length x.cap) := by
  induction l generalizing k with
  | nil => simp
  | cons x r ih =>
    cases k with
    | zero => simp [It.cells]
    | succ k =>
      have h1 : (k + 1) * 2 = k * 2 + 2 := by omega
      have h2 : (k + 1) * 2 + 1 = (k * 2 + 1) + 2 := by omega
      rw [h2, h1]
      simp only [List.flatMap_cons, It.cells, List.cons_append, List.nil_append, List.getElem?_cons_succ]
      exact ih k

theorem Its.at_ {w : World} {B : Nat} {A : Option Addr} {l : List It} (h : Its w B A l) {k : Nat} (hk : k < l.length) :
    ∃ ad, A = some ad ∧ ad.block < B ∧ w.cell? (ad.add (k * 2)) = some (u8v l[k].tag) ∧ w.cell? ⟨(ad.add (k * 2)).block, (ad.add (k * 2)).off + 1, none⟩ = some (.slice l[k].A l[k].body.length l[k].cap) := by
  obtain ⟨h1, h2⟩ := flat_cells l k
  rw [List.getElem?_eq_getElem hk] at h1 h2
  obtain ⟨ad, rfl, hb, c1⟩ := h.cells _ _ h1
  exact ⟨ad, rfl, hb, c1, by have h3 := h.cells.all h2; rw [← addr_add] at h3; exact h3⟩

def bodiesOk (l : List It) : Bool := l.all fun x => decide (x.body.length ≤ 4096)
def itemsOk (l : List It) : Bool := decide (l.length ≤ 200) && bodiesOk l

def itemsErr (l : List It) : Int := if itemsOk l then 0 else 2

theorem bodiesOk_snoc (l : List It) (k : Nat) (h : k < l.length) : bodiesOk (l.take (k + 1)) = (bodiesOk (l.take k) && decide (l[k].body.length ≤ 4096)) := by
  unfold bodiesOk
  rw [List.take_succ_eq_append_getElem h, List.all_append]
  simp only [List.all_cons, List.all_nil, Bool.and_true]
theorem itemsOk_no (l : List It) (k : Nat) (h : k < l.length) (hb : ¬ l[k].body.length ≤ 4096) : itemsOk l = false := by
  have : bodiesOk l = false := by
    rw [Bool.eq_false_iff]
    intro h1
    have := List.all_eq_true.1 h1 l[k] (List.getElem_mem h)
    simp at this; omega
  simp [itemsOk, this]

/-! ### der.Write -/
theorem SB : SlT Try.prog 59 5 1 1 := SlT.mk' Try.underlying59 (by kernel_rfl) (by omega)

def itemHead (x : It) : List UInt8 :=
  if x.body.length < 128 then [x.tag, UInt8.ofNat x.body.length]
  else if x.body.length < 256 then [x.tag, 129, UInt8.ofNat x.body.length]
  else [x.tag, 130, UInt8.ofNat (x.body.length / 256), UInt8.ofNat x.body.length]
def enc (l : List It) : List UInt8 := l.flatMap fun x => itemHead x ++ x.body
theorem enc_snoc (l : List It) (k : Nat) (h : k < l.length) : enc (l.take (k + 1)) = enc (l.take k) ++ itemHead l[k] ++ l[k].body := by
  unfold enc
  rw [List.take_succ_eq_append_getElem h, List.flatMap_append]
  simp only [List.flatMap_cons, List.flatMap_nil, List.append_nil, List.append_assoc]
theorem head_len (x : It) : (itemHead x).length ≤ 4 := by unfold itemHead; split <;> (try split) <;> simp
theorem enc_len (l : List It) (k : Nat) (hk : k ≤ l.length) (h : bodiesOk (l.take k) = true) : (enc (l.take k)).length ≤ 4100 * k := by
  induction k with
  | zero => simp [enc]
  | succ k ih =>
    rw [bodiesOk_snoc l k (by omega)] at h
    simp only [Bool.and_eq_true, decide_eq_true_eq] at h
    have h1 := ih (by omega) h.1
    rw [enc_snoc l k (by omega)]
    have h2 := head_len l[k]
    have h3 := h.2
    simp only [List.length_append]; omega

theorem head2 (x : It) (h : x.body.length < 128) : bytesV (itemHead x) = [u8v x.tag, .int .u8 (x.body.length : Int)] := by
  simp only [itemHead, h, if_true, bytesV, List.map_cons, List.map_nil, u8v, UInt8.toNat_ofNat']
  rw [Nat.mod_eq_of_lt (by omega)]
theorem head3 (x : It) (h1 : ¬ x.body.length < 128) (h : x.body.length < 256) : bytesV (itemHead x) = [u8v x.tag, .int .u8 129, .int .u8 (x.body.length : Int)] := by
  simp only [itemHead, h1, h, if_true, if_false, bytesV, List.map_cons, List.map_nil, u8v, UInt8.toNat_ofNat']
  rw [Nat.mod_eq_of_lt (by omega)]
  rfl
theorem head4 (x : It) (h : ¬ x.body.length < 256) (h4 : x.body.length ≤ 4096) : bytesV (itemHead x) = [u8v x.tag, .int .u8 130, .int .u8 ((x.body.length : Int) / 256), .int .u8 ((x.body.length : Int) % 256)] := by
  have h1 : ¬ x.body.length < 128 := by omega
  simp only [itemHead, h1, h, if_false, bytesV, List.map_cons, List.map_nil, u8v, UInt8.toNat_ofNat']
  rw [Nat.mod_eq_of_lt (show x.body.length / 256 < 2 ^ 8 by omega)]
  rfl

theorem own_far {wr : World} {B : Nat} {e : TypeId} {size n : Nat} {v : Value} {xs : List Value} (h : wr.ownsRow B e size v n xs) : some wr.heap.size ≠ v.ownBlock := fun e => Nat.lt_irrefl _ (h.lt _ e.symm).2
theorem own_to {wr : World} {B : Nat} {e : TypeId} {n : Nat} {v : Value} {xs : List Value} {l : List UInt8} (h : wr.ownsRow B e 1 v n xs) (hx : bytesV l = xs) : wr.ownsRow B e 1 v l.length (bytesV l) := by
  subst hx
  have h1 : n = l.length := by have := h.1; simp [bytesV] at this; omega
  rw [← h1]; exact h

theorem own_form {wr : World} {B : Nat} {e : TypeId} {size n : Nat} {v : Value} {xs : List Value} (h : wr.ownsRow B e size v n xs) : ∃ A c, v = .slice A n c := by
  rcases h.2 with ⟨rfl, rfl⟩ | ⟨g, cap, cur, rfl, _⟩
  · exact ⟨_, _, rfl⟩
  · exact ⟨_, _, rfl⟩
theorem ret_str {a b : List UInt8} (h : a = b) : Ending.returned (.string ⟨a.toArray⟩) = .returned (.string ⟨b.toArray⟩) := by rw [h]
theorem tup_err {v : Value} {k : IntKind} {a b : Int} (h : a = b) : Ending.returned (.tuple #[v, .int k a]) = .returned (.tuple #[v, .int k b]) := by rw [h]

theorem bodiesOk_take (l : List It) (k : Nat) (h : bodiesOk l = true) : bodiesOk (l.take k) = true :=
  List.all_eq_true.2 fun x hx => List.all_eq_true.1 h x (List.mem_of_mem_take hx)
theorem bodiesOk_at (l : List It) (h : bodiesOk l = true) (k : Nat) (hk : k < l.length) : l[k].body.length ≤ 4096 := by
  have := List.all_eq_true.1 h l[k] (List.getElem_mem hk)
  simpa using this

theorem bs_appW (a b : List UInt8) : (⟨a.toArray⟩ : ByteArray) ++ ⟨b.toArray⟩ = ⟨(a ++ b).toArray⟩ := by
  apply ByteArray.ext
  simp
theorem str_eq {a b : List UInt8} (h : a = b) : Value.string ⟨a.toArray⟩ = .string ⟨b.toArray⟩ := by rw [h]
theorem conv_row {P : Program} {w : World} {src dst e : TypeId} (hs : P.underlying src = some (.slice e)) (he : P.underlying e = some (.int .u8)) (hd : P.underlying dst = some .string)
    {g n : Nat} {l : List UInt8} {c : Nat} (h : Row w g n) (hr : rowAt w g = (bytesV l).toArray) : (convert src dst (.slice (some ⟨g, 0, none⟩) n c)).run P w = .ok (.string ⟨l.toArray⟩) w := by
  have hn : n = l.length := by have := h.size; rw [hr] at this; simpa [bytesV] using this.symm
  subst hn
  obtain ⟨cs, t, hh, -⟩ := h
  have hcs : cs = (bytesV l).toArray := by rw [← hr]; simp [rowAt, hh]
  exact conv_rd (B := w.heap.size) hs he hd (by have := Rd.of_blk (B := g + 1) hh (by omega); rw [hcs] at this; exact (fun j u hu => by obtain ⟨ad, e1, _, e3⟩ := this j u (by simpa using hu); injection e1 with e1; subst e1; exact ⟨_, rfl, by have := blk_lt hh; simpa using this, e3⟩))

def Wr (w : World) (l : List It) (e : Ending) (w' : World) : Prop :=
  ∃ A m c, e = .returned (.tuple #[.slice A m c, .int .i64 (itemsErr l)]) ∧ Rd w' w'.heap.size A (bytesV (if itemsOk l then enc l else [])) ∧ m = (if itemsOk l then enc l else []).length ∧ Below w.heap.size w w'

set_option maxRecDepth 100000 in
set_option maxHeartbeats 4000000 in
theorem der_Write (A : Option Addr) (l : List It) (c : Nat) (w : World) (h : Its w w.heap.size A l) (hn : l.length ≤ maxLen) :
    Calls Try.prog 105 #[.slice A l.length c] w (Wr w l) := by
  unfold maxLen at hn
  by_cases h2 : l.length ≤ 200
  · go_enter Try.func105, Try.ntmps105
    go_wp2
    go_loopw [4, 13] (fun v i wr => ∃ k : Nat, k ≤ l.length ∧ i = .int .i64 k ∧ Hid (bodiesOk (l.take k) = true) ∧ wr.ownsRow w.heap.size 5 1 v (enc (l.take k)).length (bytesV (enc (l.take k))) ∧ Below w.heap.size w wr ∧ w.heap.size ≤ wr.heap.size) (fun _ i _ => l.length - (intOf i).toNat)
    case atStart => exact ⟨0, by omega, rfl, rfl, World.ownsRow_nil _ _ _ _, Below.refl _ _, Nat.le_refl _⟩
    case round =>
      obtain ⟨k, hk, rfl, hok, hown, hb, hz⟩ := hrel
      have hlen := enc_len l k hk hok.out
      by_cases hlt : k < l.length
      · obtain ⟨ad, rfl, hbl, c1, c2⟩ := (h.kp (kp_of_below hb)).at_ hlt
        by_cases hbody : l[k].body.length ≤ 4096
        · by_cases g1 : l[k].body.length < 128
          · go_wp2_with (first
              | (at_builtin; refine wpList_app (o := ⟨some 42, _, _, _, _, _⟩) rfl (.tmp 36) (.tmp 41) 59 rfl SB rfl ((hown.alloc _).alloc _) rfl (m := 2) (news := [u8v l[k].tag, .int .u8 (l[k].body.length : Int)]) rfl (Rd.of_blk (cs := #[u8v l[k].tag, .int .u8 (l[k].body.length : Int)]) (blk_new _ _ (by simp)) (B := wr.heap.size + 2) (by omega)) (by simp [Value.oneCell']) (by unfold maxLen; omega) (by omega) (by simp; omega) ?_; intro v1 w1 hown1 hg1 hat1; have hb1 : Below w.heap.size w w1 := ((hb.alloc hz _).alloc (by simp; omega) _).grown hg1 (by simp; omega) (fun g hg => (hown.lt g hg).1); have hx1 : w1.cell? ⟨wr.heap.size, 1, none⟩ = some (.slice l[k].A l[k].body.length l[k].cap) := (World.cell?_of_block (hg1.block wr.heap.size (by simp; omega) (own_far hown))).trans (by go_cell); have hz1 : w.heap.size ≤ w1.heap.size := Nat.le_trans hz (Nat.le_trans (by simp; omega) hg1.size); clear hg1 hat1)
              | (at_builtin; refine wpList_app (o := ⟨some 56, _, _, _, _, _⟩) rfl (.tmp 53) (.tmp 55) 59 rfl SB rfl hown1 rfl (m := l[k].body.length) (news := bytesV l[k].body) (by simp [bytesV]) ((h.body _ (List.getElem_mem hlt)).1.below hb1) (bytesV_oneCell _) (by unfold maxLen; omega) (by omega) hz1 ?_; intro v2 w2 hown2 hg2 hat2; have hb2 : Below w.heap.size w w2 := hb1.grown hg2 hz1 (fun g hg => (hown1.lt g hg).1); have hz2 : w.heap.size ≤ w2.heap.size := Nat.le_trans hz1 hg2.size; clear hg2 hat2))
            go_roundw
            case rel => exact ⟨k + 1, by omega, by go_num, by show _ = _; rw [bodiesOk_snoc l k hlt, hok.out]; simpa using hbody, own_to hown2 (by rw [enc_snoc l k hlt, bytesV_append, bytesV_append, head2 _ g1]), hb2, hz2⟩
            case measure => simp [intOf]; omega
          · by_cases g2 : l[k].body.length < 256
            · go_wp2_with (first
                | (at_builtin; refine wpList_app (o := ⟨some 52, _, _, _, _, _⟩) rfl (.tmp 46) (.tmp 51) 59 rfl SB rfl ((hown.alloc _).alloc _) rfl (m := 3) (news := [u8v l[k].tag, .int .u8 129, .int .u8 (l[k].body.length : Int)]) rfl (Rd.of_blk (cs := #[u8v l[k].tag, .int .u8 129, .int .u8 (l[k].body.length : Int)]) (blk_new _ _ (by simp)) (B := wr.heap.size + 2) (by omega)) (by simp [Value.oneCell']) (by unfold maxLen; omega) (by omega) (by simp; omega) ?_; intro v1 w1 hown1 hg1 hat1; have hb1 : Below w.heap.size w w1 := ((hb.alloc hz _).alloc (by simp; omega) _).grown hg1 (by simp; omega) (fun g hg => (hown.lt g hg).1); have hx1 : w1.cell? ⟨wr.heap.size, 1, none⟩ = some (.slice l[k].A l[k].body.length l[k].cap) := (World.cell?_of_block (hg1.block wr.heap.size (by simp; omega) (own_far hown))).trans (by go_cell); have hz1 : w.heap.size ≤ w1.heap.size := Nat.le_trans hz (Nat.le_trans (by simp; omega) hg1.size); clear hg1 hat1)
                | (at_builtin; refine wpList_app (o := ⟨some 56, _, _, _, _, _⟩) rfl (.tmp 53) (.tmp 55) 59 rfl SB rfl hown1 rfl (m := l[k].body.length) (news := bytesV l[k].body) (by simp [bytesV]) ((h.body _ (List.getElem_mem hlt)).1.below hb1) (bytesV_oneCell _) (by unfold maxLen; omega) (by omega) hz1 ?_; intro v2 w2 hown2 hg2 hat2; have hb2 : Below w.heap.size w w2 := hb1.grown hg2 hz1 (fun g hg => (hown1.lt g hg).1); have hz2 : w.heap.size ≤ w2.heap.size := Nat.le_trans hz1 hg2.size; clear hg2 hat2))
              go_roundw
              case rel => exact ⟨k + 1, by omega, by go_num, by show _ = _; rw [bodiesOk_snoc l k hlt, hok.out]; simpa using hbody, own_to hown2 (by rw [enc_snoc l k hlt, bytesV_append, bytesV_append, head3 _ g1 g2]), hb2, hz2⟩
              case measure => simp [intOf]; omega
            · go_wp2_with (first
                | (at_builtin; refine wpList_app (o := ⟨some 29, _, _, _, _, _⟩) rfl (.tmp 20) (.tmp 28) 59 rfl SB rfl ((hown.alloc _).alloc _) rfl (m := 4) (news := [u8v l[k].tag, .int .u8 130, .int .u8 ((l[k].body.length : Int) / 256), .int .u8 ((l[k].body.length : Int) % 256)]) rfl (Rd.of_blk (cs := #[u8v l[k].tag, .int .u8 130, .int .u8 ((l[k].body.length : Int) / 256), .int .u8 ((l[k].body.length : Int) % 256)]) (blk_new _ _ (by simp)) (B := wr.heap.size + 2) (by omega)) (by simp [Value.oneCell']) (by unfold maxLen; omega) (by omega) (by simp; omega) ?_; intro v1 w1 hown1 hg1 hat1; have hb1 : Below w.heap.size w w1 := ((hb.alloc hz _).alloc (by simp; omega) _).grown hg1 (by simp; omega) (fun g hg => (hown.lt g hg).1); have hx1 : w1.cell? ⟨wr.heap.size, 1, none⟩ = some (.slice l[k].A l[k].body.length l[k].cap) := (World.cell?_of_block (hg1.block wr.heap.size (by simp; omega) (own_far hown))).trans (by go_cell); have hz1 : w.heap.size ≤ w1.heap.size := Nat.le_trans hz (Nat.le_trans (by simp; omega) hg1.size); clear hg1 hat1)
                | (at_builtin; refine wpList_app (o := ⟨some 56, _, _, _, _, _⟩) rfl (.tmp 53) (.tmp 55) 59 rfl SB rfl hown1 rfl (m := l[k].body.length) (news := bytesV l[k].body) (by simp [bytesV]) ((h.body _ (List.getElem_mem hlt)).1.below hb1) (bytesV_oneCell _) (by unfold maxLen; omega) (by omega) hz1 ?_; intro v2 w2 hown2 hg2 hat2; have hb2 : Below w.heap.size w w2 := hb1.grown hg2 hz1 (fun g hg => (hown1.lt g hg).1); have hz2 : w.heap.size ≤ w2.heap.size := Nat.le_trans hz1 hg2.size; clear hg2 hat2))
              go_roundw
              case rel => exact ⟨k + 1, by omega, by go_num, by show _ = _; rw [bodiesOk_snoc l k hlt, hok.out]; simpa using hbody, own_to hown2 (by rw [enc_snoc l k hlt, bytesV_append, bytesV_append, head4 _ g2 hbody]), hb2, hz2⟩
              case measure => simp [intOf]; omega
        · have hno := Lib.hid (itemsOk_no l k hlt hbody)
          go_wp2
          go_ret2
          exact ⟨none, 0, 0, tup_err (by simp [itemsErr, hno.out]), by simp only [hno.out]; exact Rd.nil, by simp [hno.out], by go_grown⟩
      · go_wp2
        go_ret2
        have hf : l.take k = l := List.take_of_length_le (by omega)
        rw [hf] at hok
        rw [hf] at hown
        have hok2 : itemsOk l = true := by simp [itemsOk, hok.out, h2]
        obtain ⟨A, c, hv⟩ := own_form hown
        subst hv
        exact ⟨A, _, c, tup_err (by simp [itemsErr, hok2]), by simp only [hok2, if_true]; exact Rd.of_own hown, by simp [hok2], hb⟩
  · go_enter Try.func105, Try.ntmps105
    go_wp2
    go_ret2
    have hno : itemsOk l = false := by simp [itemsOk, h2]
    exact ⟨none, 0, 0, tup_err (by simp [itemsErr, hno]), by simp only [hno]; exact Rd.nil, by simp [hno], Below.refl _ _⟩

end Go.Proofs.Ytdlmamnnamlleaa
