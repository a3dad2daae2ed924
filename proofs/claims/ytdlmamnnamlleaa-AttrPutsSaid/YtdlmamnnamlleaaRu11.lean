/- Package rule's Kinds, classOf, sized. -/
import Derived.Test.YtdlmamnnamlleaaRu10
namespace Go.Proofs.Ytdlmamnnamlleaa
open Go.ChangeShapes Go.WideShapes Go.ChangeAt Go.RowKit
set_option maxHeartbeats 1000000
set_option maxRecDepth 100000
attribute [local go_sem] kp_refl kp_alloc kp_setCell kp_drew kp_drewN row_new row_old rowAt_new rowAt_old

theorem SInt : SlT Try.prog 33 3 1 8 := SlT.mk' Try.underlying33 (by kernel_rfl) (by omega)
def upK (n : Nat) : List Nat := (List.range n).map (· + 1)
theorem upK_succ (n : Nat) : upK (n + 1) = upK n ++ [n + 1] := by simp [upK, List.range_succ]
theorem upK_len (n : Nat) : (upK n).length = n := by simp [upK]
/-- The kinds of a class. -/
def kindsN (c : Nat) : List Nat := if c = 1 then upK 7 else if c = 2 then upK 17 else if c = 3 then upK 7 ++ [14] else if c = 4 then upK 13 ++ [18] else []
def kndV (l : List Nat) : List Value := l.map fun k : Nat => Value.int .i64 (k : Int)
theorem kndV_len (l : List Nat) : (kndV l).length = l.length := by simp [kndV]
theorem kindsN_len (c : Nat) : (kindsN c).length ≤ 17 := by
  unfold kindsN upK
  repeat' split
  all_goals simp
/-- A slice of numbers that a call has made. -/
def IntsR (s : List Nat) (w : World) (v : Value) (w' : World) : Prop := ∃ A c, v = .slice A s.length c ∧ s.length ≤ c ∧ c ≤ 9223372036854775807 ∧ Rd w' w'.heap.size A (kndV s) ∧ Below w.heap.size w w'
theorem intsR_of {w W : World} {v : Value} {s : List Nat} (h : Own w w.heap.size 3 v (kndV s) W) : IntsR s w v W := by
  obtain ⟨A, c, rfl, h1, h2⟩ := h.form
  rw [kndV_len] at h1
  rw [kndV_len] at h ⊢
  exact ⟨A, c, rfl, h1, h2, h.rd, h.bel⟩

theorem rule_Kinds (c : Nat) (hc : c < 256) (w : World) : Calls Try.prog 18 #[.int .u8 c] w fun e w' => ∃ v, e = .returned v ∧ IntsR (kindsN c) w v w' := by
  by_cases c1 : c = 1
  · subst c1
    have hk : Hid (kindsN 1 = upK 7) := rfl
    change Calls Try.prog _ #[.int .u8 1] _ _
    go_enter Try.func18, Try.ntmps18
    go_wp2
    go_loopw [4, 5] (fun v x wr => ∃ n : Nat, x = .int .i64 ((n + 1 : Nat) : Int) ∧ n ≤ 7 ∧ Own w w.heap.size 3 v (kndV (upK n)) wr) (fun _ x _ => 7 + 1 - (intOf x).toNat)
    case atStart => exact ⟨0, rfl, by omega, Own.start w _⟩
    case round =>
      obtain ⟨n, rfl, hn, hO⟩ := hrel
      have hOd := hO
      obtain ⟨A4, c4, e4, -, -⟩ := hOd.form
      rw [kndV_len, upK_len] at e4
      subst e4
      by_cases hn9 : n = 7
      · subst hn9
        go_wp2
        go_ret
        exact ⟨_, rfl, by rw [hk.out]; exact intsR_of hO⟩
      · have hle : ((n + 1 : Nat) : Int) ≤ 7 := by omega
        have hw1 : IntKind.i64.wrap (((n + 1 : Nat) : Int) + 1) = ((n + 1 + 1 : Nat) : Int) := by rw [IntKind.wrap_i64]; omega
        go_wp2_with (at_builtin; go_must (refine wpList_own1 (o := ⟨some 22, _, _, _, _, _⟩) rfl (.tmp 19) (.tmp 21) 33 rfl SInt rfl hOd (.int .i64 ((n + 1 : Nat) : Int)) rfl rfl (by rw [kndV_len, upK_len]; unfold maxLen; omega) (by rw [kndV_len, upK_len]; omega) ?_); intro v1 w1 hO1 hg1 hat1; clear hg1 hat1)
        go_roundw
        case rel => exact ⟨n + 1, by go_num, by omega, by rw [upK_succ]; simpa [kndV] using hO1⟩
        case measure => simp [intOf]; omega
  by_cases c2 : c = 2
  · subst c2
    have hk : Hid (kindsN 2 = upK 17) := rfl
    change Calls Try.prog _ #[.int .u8 2] _ _
    go_enter Try.func18, Try.ntmps18
    go_wp2
    go_loopw [4, 5] (fun v x wr => ∃ n : Nat, x = .int .i64 ((n + 1 : Nat) : Int) ∧ n ≤ 17 ∧ Own w w.heap.size 3 v (kndV (upK n)) wr) (fun _ x _ => 17 + 1 - (intOf x).toNat)
    case atStart => exact ⟨0, rfl, by omega, Own.start w _⟩
    case round =>
      obtain ⟨n, rfl, hn, hO⟩ := hrel
      have hOd := hO
      obtain ⟨A4, c4, e4, -, -⟩ := hOd.form
      rw [kndV_len, upK_len] at e4
      subst e4
      by_cases hn9 : n = 17
      · subst hn9
        go_wp2
        go_ret
        exact ⟨_, rfl, by rw [hk.out]; exact intsR_of hO⟩
      · have hle : ((n + 1 : Nat) : Int) ≤ 17 := by omega
        have hw1 : IntKind.i64.wrap (((n + 1 : Nat) : Int) + 1) = ((n + 1 + 1 : Nat) : Int) := by rw [IntKind.wrap_i64]; omega
        go_wp2_with (at_builtin; go_must (refine wpList_own1 (o := ⟨some 22, _, _, _, _, _⟩) rfl (.tmp 19) (.tmp 21) 33 rfl SInt rfl hOd (.int .i64 ((n + 1 : Nat) : Int)) rfl rfl (by rw [kndV_len, upK_len]; unfold maxLen; omega) (by rw [kndV_len, upK_len]; omega) ?_); intro v1 w1 hO1 hg1 hat1; clear hg1 hat1)
        go_roundw
        case rel => exact ⟨n + 1, by go_num, by omega, by rw [upK_succ]; simpa [kndV] using hO1⟩
        case measure => simp [intOf]; omega
  by_cases c3 : c = 3
  · subst c3
    have hk : Hid (kindsN 3 = upK 7 ++ [14]) := rfl
    change Calls Try.prog _ #[.int .u8 3] _ _
    go_enter Try.func18, Try.ntmps18
    go_wp2
    go_loopw [4, 5] (fun v x wr => ∃ n : Nat, x = .int .i64 ((n + 1 : Nat) : Int) ∧ n ≤ 7 ∧ Own w w.heap.size 3 v (kndV (upK n)) wr) (fun _ x _ => 7 + 1 - (intOf x).toNat)
    case atStart => exact ⟨0, rfl, by omega, Own.start w _⟩
    case round =>
      obtain ⟨n, rfl, hn, hO⟩ := hrel
      have hOd := hO
      obtain ⟨A4, c4, e4, -, -⟩ := hOd.form
      rw [kndV_len, upK_len] at e4
      subst e4
      by_cases hn9 : n = 7
      · subst hn9
        go_wp2_with (at_builtin; go_must (refine wpList_own1 (o := ⟨some 28, _, _, _, _, _⟩) rfl (.tmp 26) (.tmp 27) 33 rfl SInt rfl hOd (.int .i64 14) rfl rfl (by rw [kndV_len, upK_len]; unfold maxLen; omega) (by rw [kndV_len, upK_len]; omega) ?_); intro v1 w1 hO1 hg1 hat1; clear hg1 hat1)
        go_ret
        exact ⟨_, rfl, by rw [hk.out]; exact intsR_of (by simpa [kndV] using hO1)⟩
      · have hle : ((n + 1 : Nat) : Int) ≤ 7 := by omega
        have hw1 : IntKind.i64.wrap (((n + 1 : Nat) : Int) + 1) = ((n + 1 + 1 : Nat) : Int) := by rw [IntKind.wrap_i64]; omega
        go_wp2_with (at_builtin; go_must (refine wpList_own1 (o := ⟨some 22, _, _, _, _, _⟩) rfl (.tmp 19) (.tmp 21) 33 rfl SInt rfl hOd (.int .i64 ((n + 1 : Nat) : Int)) rfl rfl (by rw [kndV_len, upK_len]; unfold maxLen; omega) (by rw [kndV_len, upK_len]; omega) ?_); intro v1 w1 hO1 hg1 hat1; clear hg1 hat1)
        go_roundw
        case rel => exact ⟨n + 1, by go_num, by omega, by rw [upK_succ]; simpa [kndV] using hO1⟩
        case measure => simp [intOf]; omega
  by_cases c4 : c = 4
  · subst c4
    have hk : Hid (kindsN 4 = upK 13 ++ [18]) := rfl
    change Calls Try.prog _ #[.int .u8 4] _ _
    go_enter Try.func18, Try.ntmps18
    go_wp2
    go_loopw [4, 5] (fun v x wr => ∃ n : Nat, x = .int .i64 ((n + 1 : Nat) : Int) ∧ n ≤ 13 ∧ Own w w.heap.size 3 v (kndV (upK n)) wr) (fun _ x _ => 13 + 1 - (intOf x).toNat)
    case atStart => exact ⟨0, rfl, by omega, Own.start w _⟩
    case round =>
      obtain ⟨n, rfl, hn, hO⟩ := hrel
      have hOd := hO
      obtain ⟨A4, c4, e4, -, -⟩ := hOd.form
      rw [kndV_len, upK_len] at e4
      subst e4
      by_cases hn9 : n = 13
      · subst hn9
        go_wp2_with (at_builtin; go_must (refine wpList_own1 (o := ⟨some 33, _, _, _, _, _⟩) rfl (.tmp 31) (.tmp 32) 33 rfl SInt rfl hOd (.int .i64 18) rfl rfl (by rw [kndV_len, upK_len]; unfold maxLen; omega) (by rw [kndV_len, upK_len]; omega) ?_); intro v1 w1 hO1 hg1 hat1; clear hg1 hat1)
        go_ret
        exact ⟨_, rfl, by rw [hk.out]; exact intsR_of (by simpa [kndV] using hO1)⟩
      · have hle : ((n + 1 : Nat) : Int) ≤ 13 := by omega
        have hw1 : IntKind.i64.wrap (((n + 1 : Nat) : Int) + 1) = ((n + 1 + 1 : Nat) : Int) := by rw [IntKind.wrap_i64]; omega
        go_wp2_with (at_builtin; go_must (refine wpList_own1 (o := ⟨some 22, _, _, _, _, _⟩) rfl (.tmp 19) (.tmp 21) 33 rfl SInt rfl hOd (.int .i64 ((n + 1 : Nat) : Int)) rfl rfl (by rw [kndV_len, upK_len]; unfold maxLen; omega) (by rw [kndV_len, upK_len]; omega) ?_); intro v1 w1 hO1 hg1 hat1; clear hg1 hat1)
        go_roundw
        case rel => exact ⟨n + 1, by go_num, by omega, by rw [upK_succ]; simpa [kndV] using hO1⟩
        case measure => simp [intOf]; omega
  have hk : Hid (kindsN c = []) := by show _ = _; unfold kindsN; rw [if_neg c1, if_neg c2, if_neg c3, if_neg c4]
  have d1 : ((c : Int) == 1) = false := by simp; omega
  have d2 : ((c : Int) == 2) = false := by simp; omega
  have d3 : ((c : Int) == 3) = false := by simp; omega
  have d4 : ((c : Int) == 4) = false := by simp; omega
  clear c1 c2 c3 c4
  go_enter Try.func18, Try.ntmps18
  go_wp2
  go_loopw [4, 5] (fun v x wr => ∃ n : Nat, x = .int .i64 ((n + 1 : Nat) : Int) ∧ n ≤ 0 ∧ Own w w.heap.size 3 v (kndV (upK n)) wr) (fun _ x _ => 0 + 1 - (intOf x).toNat)
  case atStart => exact ⟨0, rfl, by omega, Own.start w _⟩
  case round =>
    obtain ⟨n, rfl, hn, hO⟩ := hrel
    have hOd := hO
    obtain ⟨A4, c4, e4, -, -⟩ := hOd.form
    rw [kndV_len, upK_len] at e4
    subst e4
    by_cases hn9 : n = 0
    · subst hn9
      go_wp2
      go_ret
      exact ⟨_, rfl, by rw [hk.out]; exact intsR_of hO⟩
    · omega

/-! classOf, sized -/
def clsL (l : List KV) : Nat := match lookK l 1 with | some [b] => b.toNat | _ => 0
theorem rule_classOf (A : Option Addr) (l : List At) (c : Nat) (w : World) (h : Ats w w.heap.size A l) (hl : l.length ≤ 9223372036854775807) :
    Calls Try.prog 71 #[.slice A l.length c] w fun e w' => e = .returned (.int .u8 (clsL (l.map At.kv))) ∧ Below w.heap.size w w' := by
  have hcl : Hid (clsL (l.map At.kv) = match look l 1 with | some [b] => b.toNat | _ => 0) := by show _ = _; rw [look_kv]; rfl
  cases hk : look l 1 with
  | none =>
    rw [hk] at hcl
    have hk' := Lib.hid hk
    clear hk
    go_enter Try.func71, Try.ntmps71
    go_wp2_with fail
    refine (get_none A l c 1 _ h hl hk'.out).mono ?_
    rintro e w1 ⟨rfl, hb1⟩
    go_wp2
    go_ret
    exact ⟨ret_int (by rw [hcl.out]; rfl), hb1⟩
  | some b =>
    rw [hk] at hcl
    have hk' := Lib.hid hk
    clear hk
    go_enter Try.func71, Try.ntmps71
    go_wp2_with fail
    refine (get_some A l c 1 _ h hl hk'.out).mono ?_
    rintro e w1 ⟨v, rfl, A', c', rfl, hr, hx1, hx2, hb1⟩
    by_cases hb : b.length = 1
    · obtain ⟨b0, rfl⟩ := List.length_eq_one_iff.1 hb
      obtain ⟨ad, rfl, hbl, c1⟩ := hr.at_ (k := 0) (by simp [bytesV])
      have c1' : w1.cell? ad = some (.int .u8 b0.toNat) := by simpa [bytesV, Addr.add] using c1
      clear c1 hr
      go_wp2
      go_ret
      exact ⟨ret_int (by rw [hcl.out]), hb1⟩
    · have hd : ((b.length : Int) == 1) = false := by simp; omega
      have hd2 : Hid (clsL (l.map At.kv) = 0) := by
        show _ = _
        rw [hcl.out]
        rcases b with _ | ⟨b0, _ | ⟨b1, r⟩⟩
        · rfl
        · simp at hb
        · rfl
      go_wp2
      go_ret
      exact ⟨ret_int (by rw [hd2.out]; rfl), hb1⟩
def sizedP (c : Nat) (n : Int) : Bool := if c = 2 then (n == 16 || (n == 24 || n == 32)) else if c = 3 ∨ c = 4 then n == 32 else true
theorem rule_sized (c : Nat) (n : Int) (w : World) : Calls Try.prog 73 #[.int .u8 c, .int .i64 n] w fun e w' => e = .returned (.bool (sizedP c n)) ∧ w = w' := by
  by_cases c2 : c = 2
  · subst c2
    have hB : Hid (sizedP 2 n = (n == 16 || (n == 24 || n == 32))) := rfl
    go_enter Try.func73, Try.ntmps73
    cases d1 : (n == 16)
    · cases d2 : (n == 24)
      · go_wp2
        go_ret
        exact ⟨ret_bool (by rw [hB.out, d1, d2]; rfl), rfl⟩
      · go_wp2
        go_ret
        exact ⟨ret_bool (by rw [hB.out, d1, d2]; rfl), rfl⟩
    · go_wp2
      go_ret
      exact ⟨ret_bool (by rw [hB.out, d1]; rfl), rfl⟩
  have d2 : ((c : Int) == 2) = false := by simp; omega
  by_cases c3 : c = 3
  · subst c3
    have hB : Hid (sizedP 3 n = (n == 32)) := rfl
    go_enter Try.func73, Try.ntmps73
    go_wp2
    go_ret
    exact ⟨ret_bool (by rw [hB.out]), rfl⟩
  have d3 : ((c : Int) == 3) = false := by simp; omega
  by_cases c4 : c = 4
  · subst c4
    have hB : Hid (sizedP 4 n = (n == 32)) := rfl
    go_enter Try.func73, Try.ntmps73
    go_wp2
    go_ret
    exact ⟨ret_bool (by rw [hB.out]), rfl⟩
  have d4 : ((c : Int) == 4) = false := by simp; omega
  have hB : Hid (sizedP c n = true) := by show _ = _; unfold sizedP; rw [if_neg c2, if_neg (by omega)]
  clear c2 c3 c4
  go_enter Try.func73, Try.ntmps73
  go_wp2
  go_ret
  exact ⟨ret_bool (by rw [hB.out]), rfl⟩
end Go.Proofs.Ytdlmamnnamlleaa
