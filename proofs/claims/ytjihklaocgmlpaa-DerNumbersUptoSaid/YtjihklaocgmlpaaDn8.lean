/- Contract of der.ReadHex. -/
import Derived.Test.YtjihklaocgmlpaaDn6
import Derived.Test.YtjihklaocgmlpaaDn7
import Derived.Test.YtjihklaocgmlpaaBitsI
namespace Go.Proofs.Ytjihklaocgmlpaa
open Go Go.ChangeShapes Go.WideShapes Go.ChangeAt Go.RowKit
set_option maxHeartbeats 2000000
set_option maxRecDepth 100000
/-- The bytes that the first t twos of signs write. -/
def prH (s : List UInt8) (t : Nat) : List UInt8 := (List.range t).map fun j => UInt8.ofNat ((dgt (s[2 * j]?.getD 0) * 16 + dgt (s[2 * j + 1]?.getD 0)).toNat)
theorem prH_len (s : List UInt8) (t : Nat) : (prH s t).length = t := by simp [prH]
theorem prH_succ (s : List UInt8) (t : Nat) : prH s (t + 1) = prH s t ++ [UInt8.ofNat ((dgt (s[2 * t]?.getD 0) * 16 + dgt (s[2 * t + 1]?.getD 0)).toNat)] := by simp [prH, List.range_succ]
/-- All signs are digits, and there are twos of them. -/
def HexOk (s : List UInt8) : Prop := s.length % 2 = 0 ∧ ∀ j < s.length, 0 ≤ dgt (s[j]?.getD 0)
theorem dgt_lt (c : UInt8) : dgt c < 16 := by unfold dgt; split <;> (try split) <;> omega
theorem own_byte {w : World} {B : Nat} {v : Value} {l : List UInt8} (h : w.ownsRow B 5 1 v l.length (bytesV l)) : ∃ A c, v = .slice A l.length c ∧ l.length ≤ c ∧ c ≤ 9223372036854775807 ∧ Rd w w.heap.size A (bytesV l) := by
  rcases h.2 with ⟨h3, h4⟩ | ⟨g, cap, cur, h3, h5, h6, h4, h7, h8⟩
  · exact ⟨_, 0, by rw [h4]; exact h3, by omega, by omega, by rw [List.eq_nil_of_length_eq_zero h4]; exact Rd.nil⟩
  · subst h3
    exact ⟨_, _, rfl, h4, by unfold maxLen at h7; omega, Rd.of_own h⟩
theorem own_below {w w1 : World} {B : Nat} {e : TypeId} {size n : Nat} {v : Value} {xs : List Value} (h : w.ownsRow B e size v n xs) (hb : Below w.heap.size w w1) : w1.ownsRow B e size v n xs := by
  refine ⟨h.1, ?_⟩
  rcases h.2 with h1 | ⟨g, cap, cur, h1, h2, h3, h4⟩
  · exact .inl h1
  · have hg := (h.lt g (by rw [h1]; rfl)).2
    exact .inr ⟨g, cap, cur, h1, h2, (hb.block g hg).trans h3, h4⟩
theorem der_ReadHex_odd (s : List UInt8) (n : Nat) (w : World) (hn : s.length = n) (ho : n % 2 = 1) :
    Calls Try.prog 12 #[strW s] w fun e w' => e = .returned (.tuple #[.slice none 0 0, .int .i64 4]) ∧ w = w' := by
  have q1 : Int.tmod (n : Int) 2 = 1 := by rw [Int.tmod_eq_emod_of_nonneg (by omega)]; omega
  go_enter Try.func12, Try.ntmps12
  go_wp2
  go_ret2
  exact ⟨rfl, rfl⟩
def HexRes (s : List UInt8) (e : Ending) (w' : World) : Prop :=
  (HexOk s ∧ ∃ A c, e = .returned (.tuple #[.slice A (s.length / 2) c, .int .i64 0]) ∧ Rd w' w'.heap.size A (bytesV (prH s (s.length / 2)))) ∨ (¬ HexOk s ∧ e = .returned (.tuple #[.slice none 0 0, .int .i64 4]))
theorem der_ReadHex (s : List UInt8) (n : Nat) (w : World) (hn : s.length = n) (hnm : n ≤ 1048576) (ho : n % 2 = 0) :
    Calls Try.prog 12 #[strW s] w fun e w' => HexRes s e w' ∧ Below w.heap.size w w' := by
  have q1 : Int.tmod (n : Int) 2 = 0 := by rw [Int.tmod_eq_emod_of_nonneg (by omega)]; omega
  have q2 : Int.tdiv (n : Int) 2 = ((n / 2 : Nat) : Int) := by rw [Int.tdiv_eq_ediv_of_nonneg (by omega)]; omega
  have q3 : IntKind.i64.wrap ((n / 2 : Nat) : Int) = ((n / 2 : Nat) : Int) := by rw [IntKind.wrap_i64]; omega
  obtain ⟨m, hm⟩ : ∃ m, n / 2 = m := ⟨_, rfl⟩
  have hm2 := Lib.hid (show n = 2 * m by omega)
  rw [hm] at q2 q3
  have hmk : ∀ W : World, (Instr.makeSlice 25 (.int .i64 0) (.int .i64 (m : Nat))).run Try.prog W = .ok (.slice (some ⟨W.heap.size, 0, none⟩) 0 m) (W.alloc (.cells (arrK .u8 m fun _ => 0) 5)) := fun W =>
    run_make_buf Try.underlying25 (by kernel_rfl) .i64 .i64 (n := 0) (M := m) (Nat.zero_le _) (by omega) W
  have hO0 := Lib.hid (show (w.alloc (.cells (arrK .u8 m fun _ => 0) 5)).ownsRow w.heap.size 5 1 (.slice (some ⟨w.heap.size, 0, none⟩) 0 m) ([] : List UInt8).length (bytesV []) from
    ⟨rfl, .inr ⟨w.heap.size, m, arrK .u8 m fun _ => 0, rfl, Nat.le_refl _, push_new _ _, Nat.zero_le _, by unfold maxLen; omega, by rw [arrK_size]; omega, rfl⟩⟩)
  have hL0 := Lib.hid (below_alloc w (Obj.cells (arrK .u8 m fun _ => 0) 5))
  have hHn := Lib.hid hn
  clear hm
  go_enter Try.func12, Try.ntmps12
  go_wp2_with fail
  generalize w.alloc (.cells (arrK .u8 m fun _ => 0) 5) = W0 at *
  go_loopw [4, 5] (fun vo vi wr => ∃ (t : Nat), vi = .int .i64 ((2 * t : Nat) : Int) ∧ t ≤ m ∧ Hid (∀ j < 2 * t, 0 ≤ dgt (s[j]?.getD 0)) ∧ Hid (wr.ownsRow w.heap.size 5 1 vo (prH s t).length (bytesV (prH s t))) ∧ Hid (Below w.heap.size w wr)) (fun _ vi _ => n - (intOf vi).toNat)
  case atStart => exact ⟨0, rfl, by omega, Lib.hid (fun j hj => absurd hj (by omega)), hO0, hL0⟩
  case round =>
    obtain ⟨t, rfl, htm, hok, hO, hL⟩ := hrel
    clear hO0 hL0 hmk
    obtain ⟨A, c, rfl, hlc, hcx, hrd⟩ := own_byte hO.out
    have hpl := prH_len s t
    rw [hpl] at hO hlc
    have hsz := hL.out.size
    obtain ⟨i, hi⟩ : ∃ i, 2 * t = i := ⟨_, rfl⟩
    rw [hi, hpl]
    by_cases hc : i < n
    · have e1 : decide ((i : Int) < (n : Int)) = true := by simp; omega
      obtain ⟨ca, hca⟩ : ∃ x, s[i]? = some x := ⟨_, List.getElem?_eq_getElem (by have := hHn.out; have := hm2.out; omega)⟩
      obtain ⟨cb, hcb⟩ : ∃ x, s[i + 1]? = some x := ⟨_, List.getElem?_eq_getElem (by have := hHn.out; have := hm2.out; omega)⟩
      have hix0 := sidx s i i rfl (by omega)
      have hix1 := sidx s (i + 1) ((i : Int) + 1) (by omega) (by have := hHn.out; have := hm2.out; omega)
      rw [hca, Option.getD_some] at hix0
      rw [hcb, Option.getD_some] at hix1
      have w1 : IntKind.i64.wrap ((i : Int) + 1) = (i : Int) + 1 := by rw [IntKind.wrap_i64]; omega
      have w2 : IntKind.i64.wrap ((i : Int) + 2) = (i : Int) + 2 := by rw [IntKind.wrap_i64]; omega
      have hIa := Lib.hid (fun W => hex_IndexByte ca W)
      have hIb := Lib.hid (fun W => hex_IndexByte cb W)
      have hal := dgt_lt ca
      have hbl := dgt_lt cb
      have hHa := Lib.hid (show dgt (s[2 * t]?.getD 0) = dgt ca by rw [hi, hca]; rfl)
      have hHb := Lib.hid (show dgt (s[2 * t + 1]?.getD 0) = dgt cb by rw [hi, hcb]; rfl)
      clear hca hcb hrd
      obtain ⟨da, hda⟩ : ∃ d, dgt ca = d := ⟨_, rfl⟩
      obtain ⟨db, hdb⟩ : ∃ d, dgt cb = d := ⟨_, rfl⟩
      rw [hda] at hIa hal hHa
      rw [hdb] at hIb hbl hHb
      clear hda hdb
      go_wp2_with fail
      generalize ha0 : Act.mk _ _ = a0
      have e0 : a0.tmps[0]?.getD undef = strW s := by rw [← ha0]; rfl
      have e5 : a0.tmps[5]?.getD undef = .int .i64 (i : Nat) := by rw [← ha0]; rfl
      have hz0 : a0.tmps.size = 46 := by rw [← ha0]; rfl
      have hha0 := Lib.hid ha0
      clear ha0
      refine wp_region_tailL (fun jx_ => match jx_ with | 0 => SRel.is (strW s) | 1 => SRel.is (.int .i64 (i : Nat)) | 2 => SRel.is (.int .u8 (ca.toNat : Nat)) | 3 => SRel.is (.int .i64 da) | 4 => SRel.is (strW s) | 5 => SRel.is (.int .i64 (i : Nat)) | 6 => SRel.is (.int .i64 ((i : Int) + 1)) | 7 => SRel.is (.int .u8 (cb.toNat : Nat)) | 8 => SRel.is (.int .i64 db) | 9 => SRel.any | 10 => SRel.any | _ => SRel.any) 9 (by kernel_rfl) (by kernel_rfl) (by kernel_rfl) (slotsOk_of hz0 (by kernel_rfl)) (by kernel_rfl) (of_decide_eq_true (by kernel_rfl)) ⟨?_, ?_, ?_, ?_, ?_, ?_, ?_, ?_, ?_, trivial⟩ ?_
      · refine calmL_step rfl fun a ω κ hb hu hc hK => ?_
        have h0 : a.tmps[0]?.getD undef = strW s := (hu 0 rfl).trans e0
        have hk := Lib.hid (fun w1 (h : Below ω.heap.size ω w1) => hK (strW s) w1 rfl h)
        clear hK hu hc
        go_simp
        exact hk.out _ (Below.refl _ _)
      · refine calmL_step rfl fun a ω κ hb hu hc hK => ?_
        have h5 : a.tmps[5]?.getD undef = .int .i64 (i : Nat) := (hu 5 rfl).trans e5
        have hk := Lib.hid (fun w1 (h : Below ω.heap.size ω w1) => hK (.int .i64 (i : Nat)) w1 rfl h)
        clear hK hu hc
        go_simp
        exact hk.out _ (Below.refl _ _)
      · refine calmL_step rfl fun a ω κ hb hu hc hK => ?_
        have h22 : a.tmps[22]?.getD undef = strW s := hc 0 22 rfl rfl
        have h23 : a.tmps[23]?.getD undef = .int .i64 (i : Nat) := hc 1 23 rfl rfl
        have hk := Lib.hid (fun w1 (h : Below ω.heap.size ω w1) => hK (.int .u8 (ca.toNat : Nat)) w1 rfl h)
        clear hK hu hc
        have q1 := hix0 ω
        go_simp
        exact hk.out _ (Below.refl _ _)
      · refine calmL_step rfl fun a ω κ hb hu hc hK => ?_
        have h24 : a.tmps[24]?.getD undef = .int .u8 (ca.toNat : Nat) := hc 2 24 rfl rfl
        have hk := Lib.hid (fun w1 (h : Below ω.heap.size ω w1) => hK (.int .i64 da) w1 rfl h)
        clear hK hu hc
        go_simp
        go_at_call 58
        refine (hIa.out ω).mono ?_
        rintro e w1 ⟨rfl, rfl⟩
        exact hk.out _ (Below.refl _ _)
      · refine calmL_step rfl fun a ω κ hb hu hc hK => ?_
        have h0 : a.tmps[0]?.getD undef = strW s := (hu 0 rfl).trans e0
        have hk := Lib.hid (fun w1 (h : Below ω.heap.size ω w1) => hK (strW s) w1 rfl h)
        clear hK hu hc
        go_simp
        exact hk.out _ (Below.refl _ _)
      · refine calmL_step rfl fun a ω κ hb hu hc hK => ?_
        have h5 : a.tmps[5]?.getD undef = .int .i64 (i : Nat) := (hu 5 rfl).trans e5
        have hk := Lib.hid (fun w1 (h : Below ω.heap.size ω w1) => hK (.int .i64 (i : Nat)) w1 rfl h)
        clear hK hu hc
        go_simp
        exact hk.out _ (Below.refl _ _)
      · refine calmL_step rfl fun a ω κ hb hu hc hK => ?_
        have h27 : a.tmps[27]?.getD undef = .int .i64 (i : Nat) := hc 5 27 rfl rfl
        have hk := Lib.hid (fun w1 (h : Below ω.heap.size ω w1) => hK (.int .i64 ((i : Int) + 1)) w1 rfl h)
        clear hK hu hc
        go_simp
        exact hk.out _ (Below.refl _ _)
      · refine calmL_step rfl fun a ω κ hb hu hc hK => ?_
        have h26 : a.tmps[26]?.getD undef = strW s := hc 4 26 rfl rfl
        have h28 : a.tmps[28]?.getD undef = .int .i64 ((i : Int) + 1) := hc 6 28 rfl rfl
        have hk := Lib.hid (fun w1 (h : Below ω.heap.size ω w1) => hK (.int .u8 (cb.toNat : Nat)) w1 rfl h)
        clear hK hu hc
        have q1 := hix1 ω
        go_simp
        exact hk.out _ (Below.refl _ _)
      · refine calmL_step rfl fun a ω κ hb hu hc hK => ?_
        have h29 : a.tmps[29]?.getD undef = .int .u8 (cb.toNat : Nat) := hc 7 29 rfl rfl
        have hk := Lib.hid (fun w1 (h : Below ω.heap.size ω w1) => hK (.int .i64 db) w1 rfl h)
        clear hK hu hc
        go_simp
        go_at_call 58
        refine (hIb.out ω).mono ?_
        rintro e w1 ⟨rfl, rfl⟩
        exact hk.out _ (Below.refl _ _)
      · intro aa ω hb hu hsz hdf hc
        have h22 : aa.tmps[22]?.getD undef = strW s := hc 0 22 (by decide) rfl
        have h23 : aa.tmps[23]?.getD undef = .int .i64 (i : Nat) := hc 1 23 (by decide) rfl
        have h24 : aa.tmps[24]?.getD undef = .int .u8 (ca.toNat : Nat) := hc 2 24 (by decide) rfl
        have h25 : aa.tmps[25]?.getD undef = .int .i64 da := hc 3 25 (by decide) rfl
        have h26 : aa.tmps[26]?.getD undef = strW s := hc 4 26 (by decide) rfl
        have h27 : aa.tmps[27]?.getD undef = .int .i64 (i : Nat) := hc 5 27 (by decide) rfl
        have h28 : aa.tmps[28]?.getD undef = .int .i64 ((i : Int) + 1) := hc 6 28 (by decide) rfl
        have h29 : aa.tmps[29]?.getD undef = .int .u8 (cb.toNat : Nat) := hc 7 29 (by decide) rfl
        have h30 : aa.tmps[30]?.getD undef = .int .i64 db := hc 8 30 (by decide) rfl
        have ha0 := hha0.out
        subst ha0
        have he := act_patchL (n := 46) 9 [false, false, false, false, false, false, false, false, false, false, false, false, false, false, false, false, false, false, false, false, false, false, true, true, true, true, true, true, true, true, true, false, false, false, false, false, false, false, false, false, false, false, false, false, false, false] rfl (by kernel_rfl) hu hsz hdf
        simp only [patch, cond_true, cond_false, Nat.reduceAdd] at he
        clear hu hsz hdf hc hha0 e0 e5 hz0
        rw [he]
        clear he
        generalize aa.tmps[22]?.getD undef = x22 at *
        generalize aa.tmps[23]?.getD undef = x23 at *
        generalize aa.tmps[24]?.getD undef = x24 at *
        generalize aa.tmps[25]?.getD undef = x25 at *
        generalize aa.tmps[26]?.getD undef = x26 at *
        generalize aa.tmps[27]?.getD undef = x27 at *
        generalize aa.tmps[28]?.getD undef = x28 at *
        generalize aa.tmps[29]?.getD undef = x29 at *
        generalize aa.tmps[30]?.getD undef = x30 at *
        subst h22 h23 h24 h25 h26 h27 h28 h29 h30
        dsimp only [List.drop]
        clear hIa hIb hix0 hix1
        have hOω := Lib.hid (own_below hO.out hb)
        have hLω := Lib.hid (below_step hb hL.out (Nat.le_refl _))
        clear hO hb hL
        by_cases hbad : da < 0 ∨ db < 0
        · have hNo := Lib.hid (show ¬ HexOk s from fun h => by
            have k1 := h.2 (2 * t) (by have := hHn.out; omega)
            have k2 := h.2 (2 * t + 1) (by have := hHn.out; have := hm2.out; omega)
            rw [hHa.out] at k1
            rw [hHb.out] at k2
            omega)
          by_cases hda0 : da < 0
          · have d1 : decide (da < (0 : Int)) = true := by simpa using hda0
            clear hbad hda0
            go_wp2_with fail
            go_ret2
            exact ⟨.inr ⟨hNo.out, rfl⟩, hLω.out⟩
          · have d1 : decide (da < (0 : Int)) = false := by simpa using hda0
            have d2 : decide (db < (0 : Int)) = true := by simp; omega
            clear hbad hda0
            go_wp2_with fail
            go_ret2
            exact ⟨.inr ⟨hNo.out, rfl⟩, hLω.out⟩
        · have d1 : decide (da < (0 : Int)) = false := by simp; omega
          have d2 : decide (db < (0 : Int)) = false := by simp; omega
          obtain ⟨x, rfl⟩ := Int.eq_ofNat_of_zero_le (show 0 ≤ da by omega)
          obtain ⟨y, rfl⟩ := Int.eq_ofNat_of_zero_le (show 0 ≤ db by omega)
          have hx16 : x < 16 := by omega
          have hy16 : y < 16 := by omega
          obtain ⟨z, hz⟩ : ∃ z, x * 16 + y = z := ⟨_, rfl⟩
          have hz256 : z < 256 := by omega
          have hor : bits .or .i64 ((x : Int) * 16) (y : Int) = (z : Int) := by
            have h9 := i64_or_nat (x * 16) y (by omega) (by omega)
            have h8 : x * 16 ||| y = z := by rw [Nat.or_comm, Nat.mul_comm x 16, show 16 = 2 ^ 4 from rfl, or_low (by omega)]; omega
            rw [h8] at h9
            push_cast at h9
            exact h9
          have hzm : (z : Int) % 256 = (z : Int) := by omega
          have hnx := Lib.hid (show prH s (t + 1) = prH s t ++ [UInt8.ofNat z] by
            rw [prH_succ, hHa.out, hHb.out, show ((x : Int) * 16 + (y : Int)).toNat = z by omega])
          have hOn := Lib.hid (own_below hOω.out (below_alloc ω (Obj.cells #[Value.int .u8 (z : Nat)] 5)))
          have hLn := Lib.hid (below_step (below_alloc ω (Obj.cells #[Value.int .u8 (z : Nat)] 5)) hLω.out (Nat.le_refl _))
          have hrn := Lib.hid (one_new (w := ω) hz256)
          have hok2 := Lib.hid (show ∀ j < 2 * (t + 1), 0 ≤ dgt (s[j]?.getD 0) from fun j hj => by
            by_cases h1 : j < 2 * t
            · exact hok.out j h1
            · by_cases h2 : j = 2 * t
              · rw [h2, hHa.out]; omega
              · rw [show j = 2 * t + 1 by omega, hHb.out]; omega)
          have hi2 : ((i : Int) + 2) = ((2 * (t + 1) : Nat) : Int) := by omega
          have hHi2 := Lib.hid hi2
          have hbs : ω.heap.size < (ω.alloc (Obj.cells #[Value.int .u8 (z : Nat)] 5)).heap.size := by simp
          have hlω := hLω.out.size
          have htn : t ≤ 1048576 := by have := hm2.out; omega
          clear hbad hal hbl hz hOω hok hi2
          go_wp2_with (refine wpList_app (v := .slice A t c) rfl (.tmp 37) (.tmp 43) 25 rfl SB rfl hOn.out rfl (news := bytesV [UInt8.ofNat z]) (by simp [bytesV]) hrn.out (bytesV_oneCell _) (by unfold maxLen; omega) (by omega) (by omega) ?_; intro v' w' h1 h2 h3; have hHO3 := Lib.hid (And.intro h1 h2); clear h1 h2 h3)
          go_roundw
          case rel =>
            refine ⟨t + 1, by rw [hHi2.out], by have := hm2.out; omega, hok2, ?_, ?_⟩
            · have h5 := hHO3.out.1
              refine Lib.hid ?_
              rw [hnx.out, List.length_append, hpl]
              have e5 : bytesV (prH s t ++ [UInt8.ofNat z]) = bytesV (prH s t) ++ bytesV [UInt8.ofNat z] := by simp [bytesV]
              rw [e5]
              exact h5
            · exact Lib.hid (hLn.out.grown hHO3.out.2 (by omega) (fun k hk => (hOn.out.lt k hk).1))
          case measure => simp [intOf]; omega
    · have e1 : decide ((i : Int) < (n : Int)) = false := by simp; omega
      have htm' : t = m := by have := hm2.out; omega
      have hOk := Lib.hid (show HexOk s from ⟨by have := hHn.out; omega, fun j hj => hok.out j (by have := hHn.out; have := hm2.out; omega)⟩)
      have hfin := Lib.hid hrd
      have hlen := Lib.hid (show s.length / 2 = t by have := hHn.out; have := hm2.out; omega)
      clear hO hok hrd
      go_wp2_with fail
      go_ret2
      exact ⟨.inl ⟨hOk.out, A, c, by rw [hlen.out]; rfl, by rw [hlen.out]; exact hfin.out⟩, hL.out⟩
end Go.Proofs.Ytjihklaocgmlpaa
