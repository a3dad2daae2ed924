/- The document's PackedAttrs. -/
import Derived.Test.YtdlmamnnamlleaaPk1
namespace Go.Proofs.Ytdlmamnnamlleaa
open Go.ChangeShapes Go.WideShapes Go.ChangeAt Go.RowKit
set_option maxHeartbeats 1000000
set_option maxRecDepth 100000
attribute [local go_sem] kp_refl kp_alloc kp_setCell kp_drew kp_drewN row_new row_old rowAt_new rowAt_old

theorem packK_snoc (s : List KV) (x : KV) : packK (s ++ [x]) = packK s ++ ([UInt8.ofNat x.1.toNat, UInt8.ofNat x.2.length] ++ x.2) := by simp [packK]
theorem packK_len : ∀ (s : List KV), (∀ x ∈ s, x.2.length ≤ 64) → (packK s).length ≤ 66 * s.length := by
  intro s
  induction s with
  | nil => intro _; simp [packK]
  | cons x r ih =>
    intro h
    have h1 := h x (by simp)
    have h2 := ih fun y hy => h y (by simp [hy])
    unfold packK at *
    simp only [List.flatMap_cons, List.length_append, List.length_cons, List.length_nil]
    omega
theorem ba_append (a b : List UInt8) : (⟨a.toArray⟩ ++ ⟨b.toArray⟩ : ByteArray) = ⟨(a ++ b).toArray⟩ := by
  apply ByteArray.ext
  rw [ByteArray.data_append]
  simp
set_option maxHeartbeats 8000000 in
theorem ref_PackedAttrs (A : Option Addr) (l : List At) (c : Nat) (w : World) (h : Ats w w.heap.size A l) (hl : l.length ≤ 9223372036854775807) (hf : fault (l.map At.kv) = 0) :
    Calls Try.prog 49 #[.slice A l.length c] w fun e w' => e = .returned (.string ⟨(packS (l.map At.kv)).toArray⟩) ∧ Below w.heap.size w w' := by
  have hP : Hid (packS (l.map At.kv) = packK (cardOf (l.map At.kv)).attrs) := by show _ = _; unfold packS; rw [if_pos hf]
  have hg := good_of hf
  have hvl := Lib.hid (fun k (_ : k < 19) => cardOf_v_len l h k)
  have hat : Hid (∀ x ∈ (cardOf (l.map At.kv)).attrs, (1 ≤ x.1 ∧ x.1 ≤ 18) ∧ x.2.length ≤ 64) := fun x hx => by
    have h2 := (good_mem hg x).1 hx
    exact ⟨hg.kind _ h2, fits_len (hg.fits _ h2)⟩
  clear hf hg
  go_enter Try.func49, Try.ntmps49
  go_wp2_with fail
  refine (ref_CardOf A l c _ h hl).mono ?_
  rintro e w1 ⟨rfl, hb1⟩
  generalize hX : cardOf (l.map At.kv) = X at *
  have hXc := crd_cells X
  go_wp2_with fail
  refine (ref_Attrs X _ hvl.out).mono ?_
  rintro e w2 ⟨v, rfl, Aw, o, cw, rfl, hcw, hoe, hAw, hb2⟩
  have hL2 := below_step hb2 hb1 (Nat.le_refl _)
  have hol : o.length ≤ 19 := by
    have h1 := congrArg List.length hoe
    simp at h1
    have := crd_to_len X 19
    unfold Crd.attrs at h1; omega
  have hP2 : Hid (packS (l.map At.kv) = packK (o.map At.kv)) := by show _ = _; rw [hP.out, hoe]
  have hob : Hid (∀ x ∈ o, (1 ≤ x.kind ∧ x.kind ≤ 18) ∧ x.body.length ≤ 64) := fun x hx => hat.out x.kv (by rw [← hoe]; exact List.mem_map.2 ⟨x, hx, rfl⟩)
  clear hP hat hoe hvl hb1 hb2 hX
  go_wp2
  go_loopw [3, 10] (fun v x wr => ∃ j : Nat, x = .int .i64 j ∧ j ≤ o.length ∧ v = .string ⟨(packK ((o.map At.kv).take j)).toArray⟩ ∧ Below w2.heap.size w2 wr ∧ w2.heap.size ≤ wr.heap.size) (fun _ x _ => o.length - (intOf x).toNat)
  case atStart => exact ⟨0, rfl, by omega, rfl, Below.refl _ _, Nat.le_refl _⟩
  case round =>
    obtain ⟨j, rfl, hj, rfl, hb, hz⟩ := hrel
    have hL := below_step hb hL2 (Nat.le_refl _)
    have hA := hAw.step hb
    by_cases hji : j = o.length
    · subst hji
      have hfin : Hid (packK ((o.map At.kv).take o.length) = packS (l.map At.kv)) := by show _ = _; rw [hP2.out, List.take_of_length_le (by simp)]
      rw [hfin.out]
      go_wp2
      go_ret
      exact ⟨rfl, hL⟩
    · have hjl : j < o.length := by omega
      obtain ⟨ad, rfl, hbl, q1, q2⟩ := hA.at_ hjl
      have b1 := (hA.body _ (List.getElem_mem hjl)).1
      have hst : Hid (packK ((o.map At.kv).take (j + 1)) = packK ((o.map At.kv).take j) ++ ([UInt8.ofNat o[j].kind.toNat, UInt8.ofNat o[j].body.length] ++ o[j].body)) := by
        show _ = _
        rw [take_snoc o hjl, packK_snoc]; rfl
      have hpl := packK_len ((o.map At.kv).take j) (fun x hx => by
        obtain ⟨y, hy, rfl⟩ := List.mem_map.1 (List.mem_of_mem_take hx)
        exact (hob.out y hy).2)
      have hkd := hob.out _ (List.getElem_mem hjl)
      generalize packK ((o.map At.kv).take j) = P at *
      generalize o[j] = x at *
      obtain ⟨xk, xA, xc, xb⟩ := x
      simp only at q1 q2 hst hkd b1
      obtain ⟨n, rfl⟩ : ∃ n : Nat, xk = (n : Int) := ⟨xk.toNat, by omega⟩
      have hpl2 : P.length ≤ 1254 := by simp at hpl; omega
      have hcnv : IntKind.u8.wrap (n : Int) = (n : Int) := by rw [IntKind.wrap_u8]; omega
      have hcnv2 : IntKind.u8.wrap (xb.length : Int) = (xb.length : Int) := by rw [IntKind.wrap_u8]; omega
      have htg : ((UInt8.ofNat n).toNat : Int) = (n : Int) := by simp; omega
      have htg2 : ((UInt8.ofNat xb.length).toNat : Int) = (xb.length : Int) := by simp; omega
      have hbW : Below wr.heap.size wr (wr.alloc (.cells #[.int .i64 (n : Int), .slice xA xb.length xc] 120)) := below_alloc' wr _
      have hbV := below_alloc' (wr.alloc (.cells #[.int .i64 (n : Int), .slice xA xb.length xc] 120)) (.cells #[.int .u8 (n : Int), .int .u8 (xb.length : Int)] 5)
      have hcv2 : (convert 59 9 (.slice (some ⟨wr.heap.size + 1, 0, none⟩) 2 2)).run Try.prog ((wr.alloc (.cells #[.int .i64 (n : Int), .slice xA xb.length xc] 120)).alloc (.cells #[.int .u8 (n : Int), .int .u8 (xb.length : Int)] 5)) = .ok (.string ⟨[UInt8.ofNat n, UInt8.ofNat xb.length].toArray⟩) ((wr.alloc (.cells #[.int .i64 (n : Int), .slice xA xb.length xc] 120)).alloc (.cells #[.int .u8 (n : Int), .int .u8 (xb.length : Int)] 5)) := by
        refine conv_rd (l := [UInt8.ofNat n, UInt8.ofNat xb.length]) (B := wr.heap.size + 2) Try.underlying59 Try.underlying5 Try.underlying9 ?_
        have := Rd.of_blk (B := wr.heap.size + 2) (g := wr.heap.size + 1) (w := (wr.alloc (.cells #[.int .i64 (n : Int), .slice xA xb.length xc] 120)).alloc (.cells #[.int .u8 (n : Int), .int .u8 (xb.length : Int)] 5)) (blk_new _ _ (by simp)) (by omega)
        show Rd _ _ _ [.int .u8 ((UInt8.ofNat n).toNat : Int), .int .u8 ((UInt8.ofNat xb.length).toNat : Int)]
        rw [htg, htg2]
        exact this
      have hcv3 : ∀ W : World, Kp wr.heap.size wr W → (convert 59 9 (.slice xA xb.length xc)).run Try.prog W = .ok (.string ⟨xb.toArray⟩) W := fun W hW => conv_rd Try.underlying59 Try.underlying5 Try.underlying9 (b1.kp hW)
      have hadd1 : [UInt8.ofNat n, UInt8.ofNat xb.length].length + xb.length ≤ 9223372036854775807 := by simp; omega
      have hadd2 : P.length + ([UInt8.ofNat n, UInt8.ofNat xb.length].length + xb.length) ≤ 9223372036854775807 := by simp; omega
      have hbx := Lib.hid ((hb.trans (hbW.mono hz)).trans (hbV.mono (by simp; omega)))
      rw [show ((n : Int).toNat) = n from Int.toNat_natCast n] at hst
      clear htg htg2 b1
      generalize [UInt8.ofNat n, UInt8.ofNat xb.length] = hd at *
      go_wp2
      go_roundw
      case rel => exact ⟨j + 1, by go_num, by omega, by rw [hst.out, ba_append, ba_append], hbx.out, by simp; omega⟩
      case measure => simp [intOf]; omega
end Go.Proofs.Ytdlmamnnamlleaa
