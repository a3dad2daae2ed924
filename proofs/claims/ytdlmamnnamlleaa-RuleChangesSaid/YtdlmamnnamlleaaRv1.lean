/- The second loop of the document's Made, apart from the function that it stands in. -/
import Derived.Test.YtdlmamnnamlleaaRuD
namespace Go.Proofs.Ytdlmamnnamlleaa
open Go.ChangeShapes Go.WideShapes Go.ChangeAt Go.RowKit
set_option maxHeartbeats 1000000
set_option maxRecDepth 100000
attribute [local go_sem] kp_refl kp_alloc kp_setCell kp_drew kp_drewN row_old rowAt_new rowAt_old
attribute [local go_sem ↓] load_Crd store_Crd execl_Crd execs_Crd
attribute [local go_sem] isHead_mk blkOf_mk isAgg_mk cellsV_mk row_drew rowAt_drew row_new_cells setRow_new crd_zero

/-- The loops of a text that stand in no loop, in their order. -/
def loopsIn : Code → List Code
  | .loop c => [c]
  | .seq a b => loopsIn a ++ loopsIn b
  | .block _ c => loopsIn c
  | .scope c => loopsIn c
  | .cond _ a b => loopsIn a ++ loopsIn b
  | _ => []
/-- The body of the loop numbered k of a function. -/
def loopAt (f : Func) (k : Nat) : Code := ((loopsIn (f.body.getD .skip))[k]?).getD .skip
theorem ref_flagS (b : Bool) (w : World) : Calls Try.prog 77 #[.bool b] w fun e w' => e = .returned (.string ⟨(flagB b).toArray⟩) ∧ w = w' := ref_flag b w

set_option maxHeartbeats 8000000 in
theorem m2_no (K : Exit → Act → World → Prop) (C n g11 : Nat) (s0 s1 s2 s3 s4 s5 s6 s7 s9 s10 s13 s14 s15 s16 s17 s18 s19 s20 s21 s22 s23 s24 s25 s26 s27 s28 s29 s30 s31 s32 s33 s34 s35 s36 s37 s38 s39 s40 s41 s42 s43 s44 s45 s46 s47 s48 s49 s50 s51 s52 s53 s54 s55 s56 s57 s58 s59 s60 s61 s62 s63 s64 s65 s66 s67 s68 s69 s70 s71 s72 s73 s74 s75 s76 s77 s78 s79 s80 s81 s82 s83 s84 s85 s86 s87 s88 s89 s90 s91 s92 s93 s94 s95 s96 s97 s98 s99 s100 s101 s102 s103 s104 s105 s106 s107 s108 s109 s110 s111 s112 s113 s114 s115 s116 s117 s118 s119 s120 s121 s122 s123 : Value) (wr : World) (_hn1 : 1 ≤ n) (_hn18 : n ≤ 18) (hD : CrdAt wr g11 (dTo C n)) (hh : belongs (C : Int) (n : Int) = false)
    (hK : ∀ (t61 t62 t65 t66 t67 t68 t69 t70 t71 t72 t73 t74 t75 t76 t77 t78 t79 t80 t81 t82 t83 t84 t85 t86 t87 t88 t89 t90 t91 t63 t64 : Value) (w2 : World), (∀ g : Nat, g ≠ g11 → ∀ m, Row wr g m → Row w2 g m) → (∀ g : Nat, g ≠ g11 → ∀ X : Crd, CrdAt wr g X → CrdAt w2 g X) → CrdAt w2 g11 (dTo C (n + 1)) → (∀ B : Nat, B ≤ g11 → ∀ w0 : World, Below B w0 wr → Below B w0 w2) → K .normal ⟨#[s0, s1, s2, s3, s4, s5, s6, s7, .int .i64 (C : Nat), s9, s10, .pointer (some ⟨g11, 0, none⟩), .int .i64 ((n : Int) + 1), s13, s14, s15, s16, s17, s18, s19, s20, s21, s22, s23, s24, s25, s26, s27, s28, s29, s30, s31, s32, s33, s34, s35, s36, s37, s38, s39, s40, s41, s42, s43, s44, s45, s46, s47, s48, s49, s50, s51, s52, s53, s54, s55, s56, s57, s58, s59, s60, t61, t62, t63, t64, t65, t66, t67, t68, t69, t70, t71, t72, t73, t74, t75, t76, t77, t78, t79, t80, t81, t82, t83, t84, t85, t86, t87, t88, t89, t90, t91, s92, s93, s94, s95, s96, s97, s98, s99, s100, s101, s102, s103, s104, s105, s106, s107, s108, s109, s110, s111, s112, s113, s114, s115, s116, s117, s118, s119, s120, s121, s122, s123], []⟩ w2) :
    Code.wp Try.prog (loopAt Try.f16 1) K ⟨#[s0, s1, s2, s3, s4, s5, s6, s7, .int .i64 (C : Nat), s9, s10, .pointer (some ⟨g11, 0, none⟩), .int .i64 (n : Nat), s13, s14, s15, s16, s17, s18, s19, s20, s21, s22, s23, s24, s25, s26, s27, s28, s29, s30, s31, s32, s33, s34, s35, s36, s37, s38, s39, s40, s41, s42, s43, s44, s45, s46, s47, s48, s49, s50, s51, s52, s53, s54, s55, s56, s57, s58, s59, s60, s61, s62, s63, s64, s65, s66, s67, s68, s69, s70, s71, s72, s73, s74, s75, s76, s77, s78, s79, s80, s81, s82, s83, s84, s85, s86, s87, s88, s89, s90, s91, s92, s93, s94, s95, s96, s97, s98, s99, s100, s101, s102, s103, s104, s105, s106, s107, s108, s109, s110, s111, s112, s113, s114, s115, s116, s117, s118, s119, s120, s121, s122, s123], []⟩ wr := by
  conv => arg 2; whnf
  have hK' := Lib.hid hK
  clear hK
  have hn19 : (n : Int) < 19 := by omega
  have hn18' : (n : Int) ≤ 18 := by omega
  have hw1 : IntKind.i64.wrap ((n : Int) + 1) = ((n + 1 : Nat) : Int) := by rw [IntKind.wrap_i64]; omega
  have hbe := Lib.hid (ref_Belongs C (n : Int) wr)
  have hst : Hid (dTo C (n + 1) = dTo C n) := dTo_no (by unfold dHas; rw [hh, Bool.and_false])
  rw [hh] at hbe
  clear hh
  go_wp2_with fail
  refine hbe.out.mono ?_
  rintro e w8 ⟨rfl, rfl⟩
  go_wp2
  refine hK'.out _ _ _ _ _ _ _ _ _ _ _ _ _ _ _ _ _ _ _ _ _ _ _ _ _ _ _ _ _ _ _ _ ?_ ?_ ?_ ?_
  · exact fun _ _ _ h => h
  · exact fun _ _ _ h => h
  · rw [hst.out]; exact hD
  · exact fun _ _ _ h => h
set_option maxHeartbeats 8000000 in
theorem m2_low (K : Exit → Act → World → Prop) (C n g11 : Nat) (s0 s1 s2 s3 s4 s5 s6 s7 s9 s10 s13 s14 s15 s16 s17 s18 s19 s20 s21 s22 s23 s24 s25 s26 s27 s28 s29 s30 s31 s32 s33 s34 s35 s36 s37 s38 s39 s40 s41 s42 s43 s44 s45 s46 s47 s48 s49 s50 s51 s52 s53 s54 s55 s56 s57 s58 s59 s60 s61 s62 s63 s64 s65 s66 s67 s68 s69 s70 s71 s72 s73 s74 s75 s76 s77 s78 s79 s80 s81 s82 s83 s84 s85 s86 s87 s88 s89 s90 s91 s92 s93 s94 s95 s96 s97 s98 s99 s100 s101 s102 s103 s104 s105 s106 s107 s108 s109 s110 s111 s112 s113 s114 s115 s116 s117 s118 s119 s120 s121 s122 s123 : Value) (wr : World) (_hn1 : 1 ≤ n) (_hn18 : n ≤ 18) (hD : CrdAt wr g11 (dTo C n)) (hh : belongs (C : Int) (n : Int) = true) (h4 : n ≤ 4)
    (hK : ∀ (t61 t62 t65 t66 t67 t68 t69 t70 t71 t72 t73 t74 t75 t76 t77 t78 t79 t80 t81 t82 t83 t84 t85 t86 t87 t88 t89 t90 t91 t63 t64 : Value) (w2 : World), (∀ g : Nat, g ≠ g11 → ∀ m, Row wr g m → Row w2 g m) → (∀ g : Nat, g ≠ g11 → ∀ X : Crd, CrdAt wr g X → CrdAt w2 g X) → CrdAt w2 g11 (dTo C (n + 1)) → (∀ B : Nat, B ≤ g11 → ∀ w0 : World, Below B w0 wr → Below B w0 w2) → K .normal ⟨#[s0, s1, s2, s3, s4, s5, s6, s7, .int .i64 (C : Nat), s9, s10, .pointer (some ⟨g11, 0, none⟩), .int .i64 ((n : Int) + 1), s13, s14, s15, s16, s17, s18, s19, s20, s21, s22, s23, s24, s25, s26, s27, s28, s29, s30, s31, s32, s33, s34, s35, s36, s37, s38, s39, s40, s41, s42, s43, s44, s45, s46, s47, s48, s49, s50, s51, s52, s53, s54, s55, s56, s57, s58, s59, s60, t61, t62, t63, t64, t65, t66, t67, t68, t69, t70, t71, t72, t73, t74, t75, t76, t77, t78, t79, t80, t81, t82, t83, t84, t85, t86, t87, t88, t89, t90, t91, s92, s93, s94, s95, s96, s97, s98, s99, s100, s101, s102, s103, s104, s105, s106, s107, s108, s109, s110, s111, s112, s113, s114, s115, s116, s117, s118, s119, s120, s121, s122, s123], []⟩ w2) :
    Code.wp Try.prog (loopAt Try.f16 1) K ⟨#[s0, s1, s2, s3, s4, s5, s6, s7, .int .i64 (C : Nat), s9, s10, .pointer (some ⟨g11, 0, none⟩), .int .i64 (n : Nat), s13, s14, s15, s16, s17, s18, s19, s20, s21, s22, s23, s24, s25, s26, s27, s28, s29, s30, s31, s32, s33, s34, s35, s36, s37, s38, s39, s40, s41, s42, s43, s44, s45, s46, s47, s48, s49, s50, s51, s52, s53, s54, s55, s56, s57, s58, s59, s60, s61, s62, s63, s64, s65, s66, s67, s68, s69, s70, s71, s72, s73, s74, s75, s76, s77, s78, s79, s80, s81, s82, s83, s84, s85, s86, s87, s88, s89, s90, s91, s92, s93, s94, s95, s96, s97, s98, s99, s100, s101, s102, s103, s104, s105, s106, s107, s108, s109, s110, s111, s112, s113, s114, s115, s116, s117, s118, s119, s120, s121, s122, s123], []⟩ wr := by
  conv => arg 2; whnf
  have hK' := Lib.hid hK
  clear hK
  have hn19 : (n : Int) < 19 := by omega
  have hn18' : (n : Int) ≤ 18 := by omega
  have hw1 : IntKind.i64.wrap ((n : Int) + 1) = ((n + 1 : Nat) : Int) := by rw [IntKind.wrap_i64]; omega
  have hbe := Lib.hid (ref_Belongs C (n : Int) wr)
  have hin : Hid (inK n = true) := by show inK n = true; simp [inK]; omega
  have hdh : Hid (dHas C n = true) := by show _ = _; unfold dHas; rw [hh, hin.out]; rfl
  rw [hh] at hbe
  clear hh
  have hH2 := hD.cellH (show n < 19 by omega)
  have hV2 := hD.cellV (show n < 19 by omega)
  have hf1 := Fa.frozen hD n
  have hf2 := Fa.frozen hD (19 + n)
  have hst : Hid (dTo C (n + 1) = ⟨updH (dTo C n).has n, (dTo C n).v⟩) := dTo_low hdh.out h4
  have hD2 := Lib.hid (cf_setH _ (show n < 19 by omega) (Fa.set hD n (.bool true)))
  generalize (dTo C n).v n = vold at hV2
  generalize (dTo C n).has n = hold at hH2
  unfold strV at hV2
  have h4i : ¬ (4 : Int) < (n : Int) := by omega
  go_wp2_with fail
  refine hbe.out.mono ?_
  rintro e w8 ⟨rfl, rfl⟩
  go_wp2
  refine hK'.out _ _ _ _ _ _ _ _ _ _ _ _ _ _ _ _ _ _ _ _ _ _ _ _ _ _ _ _ _ _ _ _ ?_ ?_ ?_ ?_
  · exact fun _ _ _ h => row_setCell.2 h
  · exact fun g hg _ h => Fa.farC h hg
  · rw [hst.out]; exact hD2.out
  · exact fun B hB _ h => h.setCell hB _
set_option maxHeartbeats 8000000 in
theorem m2_seven (K : Exit → Act → World → Prop) (C n g11 : Nat) (s0 s1 s2 s3 s4 s5 s6 s7 s9 s10 s13 s14 s15 s16 s17 s18 s19 s20 s21 s22 s23 s24 s25 s26 s27 s28 s29 s30 s31 s32 s33 s34 s35 s36 s37 s38 s39 s40 s41 s42 s43 s44 s45 s46 s47 s48 s49 s50 s51 s52 s53 s54 s55 s56 s57 s58 s59 s60 s61 s62 s63 s64 s65 s66 s67 s68 s69 s70 s71 s72 s73 s74 s75 s76 s77 s78 s79 s80 s81 s82 s83 s84 s85 s86 s87 s88 s89 s90 s91 s92 s93 s94 s95 s96 s97 s98 s99 s100 s101 s102 s103 s104 s105 s106 s107 s108 s109 s110 s111 s112 s113 s114 s115 s116 s117 s118 s119 s120 s121 s122 s123 : Value) (wr : World) (_hn1 : 1 ≤ n) (_hn18 : n ≤ 18) (hD : CrdAt wr g11 (dTo C n)) (hh : belongs (C : Int) (n : Int) = true) (h4 : 4 < n) (n7 : n = 7)
    (hK : ∀ (t61 t62 t65 t66 t67 t68 t69 t70 t71 t72 t73 t74 t75 t76 t77 t78 t79 t80 t81 t82 t83 t84 t85 t86 t87 t88 t89 t90 t91 t63 t64 : Value) (w2 : World), (∀ g : Nat, g ≠ g11 → ∀ m, Row wr g m → Row w2 g m) → (∀ g : Nat, g ≠ g11 → ∀ X : Crd, CrdAt wr g X → CrdAt w2 g X) → CrdAt w2 g11 (dTo C (n + 1)) → (∀ B : Nat, B ≤ g11 → ∀ w0 : World, Below B w0 wr → Below B w0 w2) → K .normal ⟨#[s0, s1, s2, s3, s4, s5, s6, s7, .int .i64 (C : Nat), s9, s10, .pointer (some ⟨g11, 0, none⟩), .int .i64 ((n : Int) + 1), s13, s14, s15, s16, s17, s18, s19, s20, s21, s22, s23, s24, s25, s26, s27, s28, s29, s30, s31, s32, s33, s34, s35, s36, s37, s38, s39, s40, s41, s42, s43, s44, s45, s46, s47, s48, s49, s50, s51, s52, s53, s54, s55, s56, s57, s58, s59, s60, t61, t62, t63, t64, t65, t66, t67, t68, t69, t70, t71, t72, t73, t74, t75, t76, t77, t78, t79, t80, t81, t82, t83, t84, t85, t86, t87, t88, t89, t90, t91, s92, s93, s94, s95, s96, s97, s98, s99, s100, s101, s102, s103, s104, s105, s106, s107, s108, s109, s110, s111, s112, s113, s114, s115, s116, s117, s118, s119, s120, s121, s122, s123], []⟩ w2) :
    Code.wp Try.prog (loopAt Try.f16 1) K ⟨#[s0, s1, s2, s3, s4, s5, s6, s7, .int .i64 (C : Nat), s9, s10, .pointer (some ⟨g11, 0, none⟩), .int .i64 (n : Nat), s13, s14, s15, s16, s17, s18, s19, s20, s21, s22, s23, s24, s25, s26, s27, s28, s29, s30, s31, s32, s33, s34, s35, s36, s37, s38, s39, s40, s41, s42, s43, s44, s45, s46, s47, s48, s49, s50, s51, s52, s53, s54, s55, s56, s57, s58, s59, s60, s61, s62, s63, s64, s65, s66, s67, s68, s69, s70, s71, s72, s73, s74, s75, s76, s77, s78, s79, s80, s81, s82, s83, s84, s85, s86, s87, s88, s89, s90, s91, s92, s93, s94, s95, s96, s97, s98, s99, s100, s101, s102, s103, s104, s105, s106, s107, s108, s109, s110, s111, s112, s113, s114, s115, s116, s117, s118, s119, s120, s121, s122, s123], []⟩ wr := by
  conv => arg 2; whnf
  have hK' := Lib.hid hK
  clear hK
  have hn19 : (n : Int) < 19 := by omega
  have hn18' : (n : Int) ≤ 18 := by omega
  have hw1 : IntKind.i64.wrap ((n : Int) + 1) = ((n + 1 : Nat) : Int) := by rw [IntKind.wrap_i64]; omega
  have hbe := Lib.hid (ref_Belongs C (n : Int) wr)
  have hin : Hid (inK n = true) := by show inK n = true; simp [inK]; omega
  have hdh : Hid (dHas C n = true) := by show _ = _; unfold dHas; rw [hh, hin.out]; rfl
  rw [hh] at hbe
  clear hh
  have hH2 := hD.cellH (show n < 19 by omega)
  have hV2 := hD.cellV (show n < 19 by omega)
  have hf1 := Fa.frozen hD n
  have hf2 := Fa.frozen hD (19 + n)
  have hst := Lib.hid (dTo_high hdh.out (show 4 < n by omega))
  have hD2 := Lib.hid (fun b => cf_upd _ (show n < 19 by omega) b ((Fa.set hD n (.bool true)).set (19 + n) (strV b)))
  generalize (dTo C n).v n = vold at hV2
  generalize (dTo C n).has n = hold at hH2
  unfold strV at hV2
  have h4i : (4 : Int) < (n : Int) := by omega
  have d7 : ((n : Int) == 7) = true := by rw [beq_iff_eq]; omega
  have hb7 : Hid ((n == 7 || (n == 9 || (n == 6 && C % 2 == 0))) = true) := by
    show _ = _
    simp [n7]
  clear h4 n7
  go_wp2_with fail
  refine hbe.out.mono ?_
  rintro e w8 ⟨rfl, rfl⟩
  go_wp2_with fail
  refine (ref_flagS true _).mono ?_
  rintro e w8 ⟨rfl, rfl⟩
  go_wp2
  refine hK'.out _ _ _ _ _ _ _ _ _ _ _ _ _ _ _ _ _ _ _ _ _ _ _ _ _ _ _ _ _ _ _ _ ?_ ?_ ?_ ?_
  · exact fun _ _ _ h => row_setCell.2 (row_setCell.2 h)
  · exact fun g hg _ h => Fa.farC (Fa.farC h hg) hg
  · rw [hst.out, hb7.out]; exact hD2.out _
  · exact fun B hB _ h => (h.setCell hB _).setCell hB _
set_option maxHeartbeats 8000000 in
theorem m2_nine (K : Exit → Act → World → Prop) (C n g11 : Nat) (s0 s1 s2 s3 s4 s5 s6 s7 s9 s10 s13 s14 s15 s16 s17 s18 s19 s20 s21 s22 s23 s24 s25 s26 s27 s28 s29 s30 s31 s32 s33 s34 s35 s36 s37 s38 s39 s40 s41 s42 s43 s44 s45 s46 s47 s48 s49 s50 s51 s52 s53 s54 s55 s56 s57 s58 s59 s60 s61 s62 s63 s64 s65 s66 s67 s68 s69 s70 s71 s72 s73 s74 s75 s76 s77 s78 s79 s80 s81 s82 s83 s84 s85 s86 s87 s88 s89 s90 s91 s92 s93 s94 s95 s96 s97 s98 s99 s100 s101 s102 s103 s104 s105 s106 s107 s108 s109 s110 s111 s112 s113 s114 s115 s116 s117 s118 s119 s120 s121 s122 s123 : Value) (wr : World) (_hn1 : 1 ≤ n) (_hn18 : n ≤ 18) (hD : CrdAt wr g11 (dTo C n)) (hh : belongs (C : Int) (n : Int) = true) (h4 : 4 < n) (n9 : n = 9)
    (hK : ∀ (t61 t62 t65 t66 t67 t68 t69 t70 t71 t72 t73 t74 t75 t76 t77 t78 t79 t80 t81 t82 t83 t84 t85 t86 t87 t88 t89 t90 t91 t63 t64 : Value) (w2 : World), (∀ g : Nat, g ≠ g11 → ∀ m, Row wr g m → Row w2 g m) → (∀ g : Nat, g ≠ g11 → ∀ X : Crd, CrdAt wr g X → CrdAt w2 g X) → CrdAt w2 g11 (dTo C (n + 1)) → (∀ B : Nat, B ≤ g11 → ∀ w0 : World, Below B w0 wr → Below B w0 w2) → K .normal ⟨#[s0, s1, s2, s3, s4, s5, s6, s7, .int .i64 (C : Nat), s9, s10, .pointer (some ⟨g11, 0, none⟩), .int .i64 ((n : Int) + 1), s13, s14, s15, s16, s17, s18, s19, s20, s21, s22, s23, s24, s25, s26, s27, s28, s29, s30, s31, s32, s33, s34, s35, s36, s37, s38, s39, s40, s41, s42, s43, s44, s45, s46, s47, s48, s49, s50, s51, s52, s53, s54, s55, s56, s57, s58, s59, s60, t61, t62, t63, t64, t65, t66, t67, t68, t69, t70, t71, t72, t73, t74, t75, t76, t77, t78, t79, t80, t81, t82, t83, t84, t85, t86, t87, t88, t89, t90, t91, s92, s93, s94, s95, s96, s97, s98, s99, s100, s101, s102, s103, s104, s105, s106, s107, s108, s109, s110, s111, s112, s113, s114, s115, s116, s117, s118, s119, s120, s121, s122, s123], []⟩ w2) :
    Code.wp Try.prog (loopAt Try.f16 1) K ⟨#[s0, s1, s2, s3, s4, s5, s6, s7, .int .i64 (C : Nat), s9, s10, .pointer (some ⟨g11, 0, none⟩), .int .i64 (n : Nat), s13, s14, s15, s16, s17, s18, s19, s20, s21, s22, s23, s24, s25, s26, s27, s28, s29, s30, s31, s32, s33, s34, s35, s36, s37, s38, s39, s40, s41, s42, s43, s44, s45, s46, s47, s48, s49, s50, s51, s52, s53, s54, s55, s56, s57, s58, s59, s60, s61, s62, s63, s64, s65, s66, s67, s68, s69, s70, s71, s72, s73, s74, s75, s76, s77, s78, s79, s80, s81, s82, s83, s84, s85, s86, s87, s88, s89, s90, s91, s92, s93, s94, s95, s96, s97, s98, s99, s100, s101, s102, s103, s104, s105, s106, s107, s108, s109, s110, s111, s112, s113, s114, s115, s116, s117, s118, s119, s120, s121, s122, s123], []⟩ wr := by
  conv => arg 2; whnf
  have hK' := Lib.hid hK
  clear hK
  have hn19 : (n : Int) < 19 := by omega
  have hn18' : (n : Int) ≤ 18 := by omega
  have hw1 : IntKind.i64.wrap ((n : Int) + 1) = ((n + 1 : Nat) : Int) := by rw [IntKind.wrap_i64]; omega
  have hbe := Lib.hid (ref_Belongs C (n : Int) wr)
  have hin : Hid (inK n = true) := by show inK n = true; simp [inK]; omega
  have hdh : Hid (dHas C n = true) := by show _ = _; unfold dHas; rw [hh, hin.out]; rfl
  rw [hh] at hbe
  clear hh
  have hH2 := hD.cellH (show n < 19 by omega)
  have hV2 := hD.cellV (show n < 19 by omega)
  have hf1 := Fa.frozen hD n
  have hf2 := Fa.frozen hD (19 + n)
  have hst := Lib.hid (dTo_high hdh.out (show 4 < n by omega))
  have hD2 := Lib.hid (fun b => cf_upd _ (show n < 19 by omega) b ((Fa.set hD n (.bool true)).set (19 + n) (strV b)))
  generalize (dTo C n).v n = vold at hV2
  generalize (dTo C n).has n = hold at hH2
  unfold strV at hV2
  have h4i : (4 : Int) < (n : Int) := by omega
  have d7 : ((n : Int) == 7) = false := by rw [beq_eq_false_iff_ne]; omega
  have d9 : ((n : Int) == 9) = true := by rw [beq_iff_eq]; omega
  have hb7 : Hid ((n == 7 || (n == 9 || (n == 6 && C % 2 == 0))) = true) := by
    show _ = _
    simp [n9]
  clear h4 n9
  go_wp2_with fail
  refine hbe.out.mono ?_
  rintro e w8 ⟨rfl, rfl⟩
  go_wp2_with fail
  refine (ref_flagS true _).mono ?_
  rintro e w8 ⟨rfl, rfl⟩
  go_wp2
  refine hK'.out _ _ _ _ _ _ _ _ _ _ _ _ _ _ _ _ _ _ _ _ _ _ _ _ _ _ _ _ _ _ _ _ ?_ ?_ ?_ ?_
  · exact fun _ _ _ h => row_setCell.2 (row_setCell.2 h)
  · exact fun g hg _ h => Fa.farC (Fa.farC h hg) hg
  · rw [hst.out, hb7.out]; exact hD2.out _
  · exact fun B hB _ h => (h.setCell hB _).setCell hB _
set_option maxHeartbeats 8000000 in
theorem m2_sixE (K : Exit → Act → World → Prop) (C n g11 : Nat) (s0 s1 s2 s3 s4 s5 s6 s7 s9 s10 s13 s14 s15 s16 s17 s18 s19 s20 s21 s22 s23 s24 s25 s26 s27 s28 s29 s30 s31 s32 s33 s34 s35 s36 s37 s38 s39 s40 s41 s42 s43 s44 s45 s46 s47 s48 s49 s50 s51 s52 s53 s54 s55 s56 s57 s58 s59 s60 s61 s62 s63 s64 s65 s66 s67 s68 s69 s70 s71 s72 s73 s74 s75 s76 s77 s78 s79 s80 s81 s82 s83 s84 s85 s86 s87 s88 s89 s90 s91 s92 s93 s94 s95 s96 s97 s98 s99 s100 s101 s102 s103 s104 s105 s106 s107 s108 s109 s110 s111 s112 s113 s114 s115 s116 s117 s118 s119 s120 s121 s122 s123 : Value) (wr : World) (_hn1 : 1 ≤ n) (_hn18 : n ≤ 18) (hD : CrdAt wr g11 (dTo C n)) (hh : belongs (C : Int) (n : Int) = true) (h4 : 4 < n) (n6 : n = 6) (ev : C % 2 = 0)
    (hK : ∀ (t61 t62 t65 t66 t67 t68 t69 t70 t71 t72 t73 t74 t75 t76 t77 t78 t79 t80 t81 t82 t83 t84 t85 t86 t87 t88 t89 t90 t91 t63 t64 : Value) (w2 : World), (∀ g : Nat, g ≠ g11 → ∀ m, Row wr g m → Row w2 g m) → (∀ g : Nat, g ≠ g11 → ∀ X : Crd, CrdAt wr g X → CrdAt w2 g X) → CrdAt w2 g11 (dTo C (n + 1)) → (∀ B : Nat, B ≤ g11 → ∀ w0 : World, Below B w0 wr → Below B w0 w2) → K .normal ⟨#[s0, s1, s2, s3, s4, s5, s6, s7, .int .i64 (C : Nat), s9, s10, .pointer (some ⟨g11, 0, none⟩), .int .i64 ((n : Int) + 1), s13, s14, s15, s16, s17, s18, s19, s20, s21, s22, s23, s24, s25, s26, s27, s28, s29, s30, s31, s32, s33, s34, s35, s36, s37, s38, s39, s40, s41, s42, s43, s44, s45, s46, s47, s48, s49, s50, s51, s52, s53, s54, s55, s56, s57, s58, s59, s60, t61, t62, t63, t64, t65, t66, t67, t68, t69, t70, t71, t72, t73, t74, t75, t76, t77, t78, t79, t80, t81, t82, t83, t84, t85, t86, t87, t88, t89, t90, t91, s92, s93, s94, s95, s96, s97, s98, s99, s100, s101, s102, s103, s104, s105, s106, s107, s108, s109, s110, s111, s112, s113, s114, s115, s116, s117, s118, s119, s120, s121, s122, s123], []⟩ w2) :
    Code.wp Try.prog (loopAt Try.f16 1) K ⟨#[s0, s1, s2, s3, s4, s5, s6, s7, .int .i64 (C : Nat), s9, s10, .pointer (some ⟨g11, 0, none⟩), .int .i64 (n : Nat), s13, s14, s15, s16, s17, s18, s19, s20, s21, s22, s23, s24, s25, s26, s27, s28, s29, s30, s31, s32, s33, s34, s35, s36, s37, s38, s39, s40, s41, s42, s43, s44, s45, s46, s47, s48, s49, s50, s51, s52, s53, s54, s55, s56, s57, s58, s59, s60, s61, s62, s63, s64, s65, s66, s67, s68, s69, s70, s71, s72, s73, s74, s75, s76, s77, s78, s79, s80, s81, s82, s83, s84, s85, s86, s87, s88, s89, s90, s91, s92, s93, s94, s95, s96, s97, s98, s99, s100, s101, s102, s103, s104, s105, s106, s107, s108, s109, s110, s111, s112, s113, s114, s115, s116, s117, s118, s119, s120, s121, s122, s123], []⟩ wr := by
  conv => arg 2; whnf
  have hK' := Lib.hid hK
  clear hK
  have hn19 : (n : Int) < 19 := by omega
  have hn18' : (n : Int) ≤ 18 := by omega
  have hw1 : IntKind.i64.wrap ((n : Int) + 1) = ((n + 1 : Nat) : Int) := by rw [IntKind.wrap_i64]; omega
  have hbe := Lib.hid (ref_Belongs C (n : Int) wr)
  have hin : Hid (inK n = true) := by show inK n = true; simp [inK]; omega
  have hdh : Hid (dHas C n = true) := by show _ = _; unfold dHas; rw [hh, hin.out]; rfl
  rw [hh] at hbe
  clear hh
  have hH2 := hD.cellH (show n < 19 by omega)
  have hV2 := hD.cellV (show n < 19 by omega)
  have hf1 := Fa.frozen hD n
  have hf2 := Fa.frozen hD (19 + n)
  have hst := Lib.hid (dTo_high hdh.out (show 4 < n by omega))
  have hD2 := Lib.hid (fun b => cf_upd _ (show n < 19 by omega) b ((Fa.set hD n (.bool true)).set (19 + n) (strV b)))
  generalize (dTo C n).v n = vold at hV2
  generalize (dTo C n).has n = hold at hH2
  unfold strV at hV2
  have h4i : (4 : Int) < (n : Int) := by omega
  have d7 : ((n : Int) == 7) = false := by rw [beq_eq_false_iff_ne]; omega
  have d9 : ((n : Int) == 9) = false := by rw [beq_eq_false_iff_ne]; omega
  have d6 : ((n : Int) == 6) = true := by rw [beq_iff_eq]; omega
  have de : ((C : Int) % 2 == 0) = true := by rw [beq_iff_eq]; omega
  have hb7 : Hid ((n == 7 || (n == 9 || (n == 6 && C % 2 == 0))) = true) := by
    show _ = _
    simp [n6, ev]
  clear h4 ev n6
  go_wp2_with fail
  refine hbe.out.mono ?_
  rintro e w8 ⟨rfl, rfl⟩
  go_wp2_with fail
  refine (ref_flagS true _).mono ?_
  rintro e w8 ⟨rfl, rfl⟩
  go_wp2
  refine hK'.out _ _ _ _ _ _ _ _ _ _ _ _ _ _ _ _ _ _ _ _ _ _ _ _ _ _ _ _ _ _ _ _ ?_ ?_ ?_ ?_
  · exact fun _ _ _ h => row_setCell.2 (row_setCell.2 h)
  · exact fun g hg _ h => Fa.farC (Fa.farC h hg) hg
  · rw [hst.out, hb7.out]; exact hD2.out _
  · exact fun B hB _ h => (h.setCell hB _).setCell hB _
set_option maxHeartbeats 8000000 in
theorem m2_sixO (K : Exit → Act → World → Prop) (C n g11 : Nat) (s0 s1 s2 s3 s4 s5 s6 s7 s9 s10 s13 s14 s15 s16 s17 s18 s19 s20 s21 s22 s23 s24 s25 s26 s27 s28 s29 s30 s31 s32 s33 s34 s35 s36 s37 s38 s39 s40 s41 s42 s43 s44 s45 s46 s47 s48 s49 s50 s51 s52 s53 s54 s55 s56 s57 s58 s59 s60 s61 s62 s63 s64 s65 s66 s67 s68 s69 s70 s71 s72 s73 s74 s75 s76 s77 s78 s79 s80 s81 s82 s83 s84 s85 s86 s87 s88 s89 s90 s91 s92 s93 s94 s95 s96 s97 s98 s99 s100 s101 s102 s103 s104 s105 s106 s107 s108 s109 s110 s111 s112 s113 s114 s115 s116 s117 s118 s119 s120 s121 s122 s123 : Value) (wr : World) (_hn1 : 1 ≤ n) (_hn18 : n ≤ 18) (hD : CrdAt wr g11 (dTo C n)) (hh : belongs (C : Int) (n : Int) = true) (h4 : 4 < n) (n6 : n = 6) (ev : ¬ C % 2 = 0)
    (hK : ∀ (t61 t62 t65 t66 t67 t68 t69 t70 t71 t72 t73 t74 t75 t76 t77 t78 t79 t80 t81 t82 t83 t84 t85 t86 t87 t88 t89 t90 t91 t63 t64 : Value) (w2 : World), (∀ g : Nat, g ≠ g11 → ∀ m, Row wr g m → Row w2 g m) → (∀ g : Nat, g ≠ g11 → ∀ X : Crd, CrdAt wr g X → CrdAt w2 g X) → CrdAt w2 g11 (dTo C (n + 1)) → (∀ B : Nat, B ≤ g11 → ∀ w0 : World, Below B w0 wr → Below B w0 w2) → K .normal ⟨#[s0, s1, s2, s3, s4, s5, s6, s7, .int .i64 (C : Nat), s9, s10, .pointer (some ⟨g11, 0, none⟩), .int .i64 ((n : Int) + 1), s13, s14, s15, s16, s17, s18, s19, s20, s21, s22, s23, s24, s25, s26, s27, s28, s29, s30, s31, s32, s33, s34, s35, s36, s37, s38, s39, s40, s41, s42, s43, s44, s45, s46, s47, s48, s49, s50, s51, s52, s53, s54, s55, s56, s57, s58, s59, s60, t61, t62, t63, t64, t65, t66, t67, t68, t69, t70, t71, t72, t73, t74, t75, t76, t77, t78, t79, t80, t81, t82, t83, t84, t85, t86, t87, t88, t89, t90, t91, s92, s93, s94, s95, s96, s97, s98, s99, s100, s101, s102, s103, s104, s105, s106, s107, s108, s109, s110, s111, s112, s113, s114, s115, s116, s117, s118, s119, s120, s121, s122, s123], []⟩ w2) :
    Code.wp Try.prog (loopAt Try.f16 1) K ⟨#[s0, s1, s2, s3, s4, s5, s6, s7, .int .i64 (C : Nat), s9, s10, .pointer (some ⟨g11, 0, none⟩), .int .i64 (n : Nat), s13, s14, s15, s16, s17, s18, s19, s20, s21, s22, s23, s24, s25, s26, s27, s28, s29, s30, s31, s32, s33, s34, s35, s36, s37, s38, s39, s40, s41, s42, s43, s44, s45, s46, s47, s48, s49, s50, s51, s52, s53, s54, s55, s56, s57, s58, s59, s60, s61, s62, s63, s64, s65, s66, s67, s68, s69, s70, s71, s72, s73, s74, s75, s76, s77, s78, s79, s80, s81, s82, s83, s84, s85, s86, s87, s88, s89, s90, s91, s92, s93, s94, s95, s96, s97, s98, s99, s100, s101, s102, s103, s104, s105, s106, s107, s108, s109, s110, s111, s112, s113, s114, s115, s116, s117, s118, s119, s120, s121, s122, s123], []⟩ wr := by
  conv => arg 2; whnf
  have hK' := Lib.hid hK
  clear hK
  have hn19 : (n : Int) < 19 := by omega
  have hn18' : (n : Int) ≤ 18 := by omega
  have hw1 : IntKind.i64.wrap ((n : Int) + 1) = ((n + 1 : Nat) : Int) := by rw [IntKind.wrap_i64]; omega
  have hbe := Lib.hid (ref_Belongs C (n : Int) wr)
  have hin : Hid (inK n = true) := by show inK n = true; simp [inK]; omega
  have hdh : Hid (dHas C n = true) := by show _ = _; unfold dHas; rw [hh, hin.out]; rfl
  rw [hh] at hbe
  clear hh
  have hH2 := hD.cellH (show n < 19 by omega)
  have hV2 := hD.cellV (show n < 19 by omega)
  have hf1 := Fa.frozen hD n
  have hf2 := Fa.frozen hD (19 + n)
  have hst := Lib.hid (dTo_high hdh.out (show 4 < n by omega))
  have hD2 := Lib.hid (fun b => cf_upd _ (show n < 19 by omega) b ((Fa.set hD n (.bool true)).set (19 + n) (strV b)))
  generalize (dTo C n).v n = vold at hV2
  generalize (dTo C n).has n = hold at hH2
  unfold strV at hV2
  have h4i : (4 : Int) < (n : Int) := by omega
  have d7 : ((n : Int) == 7) = false := by rw [beq_eq_false_iff_ne]; omega
  have d9 : ((n : Int) == 9) = false := by rw [beq_eq_false_iff_ne]; omega
  have d6 : ((n : Int) == 6) = true := by rw [beq_iff_eq]; omega
  have de : ((C : Int) % 2 == 0) = false := by rw [beq_eq_false_iff_ne]; omega
  have hb7 : Hid ((n == 7 || (n == 9 || (n == 6 && C % 2 == 0))) = false) := by
    show _ = _
    simp [n6, ev]
  clear h4 ev n6
  go_wp2_with fail
  refine hbe.out.mono ?_
  rintro e w8 ⟨rfl, rfl⟩
  go_wp2_with fail
  refine (ref_flagS false _).mono ?_
  rintro e w8 ⟨rfl, rfl⟩
  go_wp2
  refine hK'.out _ _ _ _ _ _ _ _ _ _ _ _ _ _ _ _ _ _ _ _ _ _ _ _ _ _ _ _ _ _ _ _ ?_ ?_ ?_ ?_
  · exact fun _ _ _ h => row_setCell.2 (row_setCell.2 h)
  · exact fun g hg _ h => Fa.farC (Fa.farC h hg) hg
  · rw [hst.out, hb7.out]; exact hD2.out _
  · exact fun B hB _ h => (h.setCell hB _).setCell hB _
set_option maxHeartbeats 8000000 in
theorem m2_else (K : Exit → Act → World → Prop) (C n g11 : Nat) (s0 s1 s2 s3 s4 s5 s6 s7 s9 s10 s13 s14 s15 s16 s17 s18 s19 s20 s21 s22 s23 s24 s25 s26 s27 s28 s29 s30 s31 s32 s33 s34 s35 s36 s37 s38 s39 s40 s41 s42 s43 s44 s45 s46 s47 s48 s49 s50 s51 s52 s53 s54 s55 s56 s57 s58 s59 s60 s61 s62 s63 s64 s65 s66 s67 s68 s69 s70 s71 s72 s73 s74 s75 s76 s77 s78 s79 s80 s81 s82 s83 s84 s85 s86 s87 s88 s89 s90 s91 s92 s93 s94 s95 s96 s97 s98 s99 s100 s101 s102 s103 s104 s105 s106 s107 s108 s109 s110 s111 s112 s113 s114 s115 s116 s117 s118 s119 s120 s121 s122 s123 : Value) (wr : World) (_hn1 : 1 ≤ n) (_hn18 : n ≤ 18) (hD : CrdAt wr g11 (dTo C n)) (hh : belongs (C : Int) (n : Int) = true) (h4 : 4 < n) (n7 : n ≠ 7) (n9 : n ≠ 9) (n6 : n ≠ 6)
    (hK : ∀ (t61 t62 t65 t66 t67 t68 t69 t70 t71 t72 t73 t74 t75 t76 t77 t78 t79 t80 t81 t82 t83 t84 t85 t86 t87 t88 t89 t90 t91 t63 t64 : Value) (w2 : World), (∀ g : Nat, g ≠ g11 → ∀ m, Row wr g m → Row w2 g m) → (∀ g : Nat, g ≠ g11 → ∀ X : Crd, CrdAt wr g X → CrdAt w2 g X) → CrdAt w2 g11 (dTo C (n + 1)) → (∀ B : Nat, B ≤ g11 → ∀ w0 : World, Below B w0 wr → Below B w0 w2) → K .normal ⟨#[s0, s1, s2, s3, s4, s5, s6, s7, .int .i64 (C : Nat), s9, s10, .pointer (some ⟨g11, 0, none⟩), .int .i64 ((n : Int) + 1), s13, s14, s15, s16, s17, s18, s19, s20, s21, s22, s23, s24, s25, s26, s27, s28, s29, s30, s31, s32, s33, s34, s35, s36, s37, s38, s39, s40, s41, s42, s43, s44, s45, s46, s47, s48, s49, s50, s51, s52, s53, s54, s55, s56, s57, s58, s59, s60, t61, t62, t63, t64, t65, t66, t67, t68, t69, t70, t71, t72, t73, t74, t75, t76, t77, t78, t79, t80, t81, t82, t83, t84, t85, t86, t87, t88, t89, t90, t91, s92, s93, s94, s95, s96, s97, s98, s99, s100, s101, s102, s103, s104, s105, s106, s107, s108, s109, s110, s111, s112, s113, s114, s115, s116, s117, s118, s119, s120, s121, s122, s123], []⟩ w2) :
    Code.wp Try.prog (loopAt Try.f16 1) K ⟨#[s0, s1, s2, s3, s4, s5, s6, s7, .int .i64 (C : Nat), s9, s10, .pointer (some ⟨g11, 0, none⟩), .int .i64 (n : Nat), s13, s14, s15, s16, s17, s18, s19, s20, s21, s22, s23, s24, s25, s26, s27, s28, s29, s30, s31, s32, s33, s34, s35, s36, s37, s38, s39, s40, s41, s42, s43, s44, s45, s46, s47, s48, s49, s50, s51, s52, s53, s54, s55, s56, s57, s58, s59, s60, s61, s62, s63, s64, s65, s66, s67, s68, s69, s70, s71, s72, s73, s74, s75, s76, s77, s78, s79, s80, s81, s82, s83, s84, s85, s86, s87, s88, s89, s90, s91, s92, s93, s94, s95, s96, s97, s98, s99, s100, s101, s102, s103, s104, s105, s106, s107, s108, s109, s110, s111, s112, s113, s114, s115, s116, s117, s118, s119, s120, s121, s122, s123], []⟩ wr := by
  conv => arg 2; whnf
  have hK' := Lib.hid hK
  clear hK
  have hn19 : (n : Int) < 19 := by omega
  have hn18' : (n : Int) ≤ 18 := by omega
  have hw1 : IntKind.i64.wrap ((n : Int) + 1) = ((n + 1 : Nat) : Int) := by rw [IntKind.wrap_i64]; omega
  have hbe := Lib.hid (ref_Belongs C (n : Int) wr)
  have hin : Hid (inK n = true) := by show inK n = true; simp [inK]; omega
  have hdh : Hid (dHas C n = true) := by show _ = _; unfold dHas; rw [hh, hin.out]; rfl
  rw [hh] at hbe
  clear hh
  have hH2 := hD.cellH (show n < 19 by omega)
  have hV2 := hD.cellV (show n < 19 by omega)
  have hf1 := Fa.frozen hD n
  have hf2 := Fa.frozen hD (19 + n)
  have hst := Lib.hid (dTo_high hdh.out (show 4 < n by omega))
  have hD2 := Lib.hid (fun b => cf_upd _ (show n < 19 by omega) b ((Fa.set hD n (.bool true)).set (19 + n) (strV b)))
  generalize (dTo C n).v n = vold at hV2
  generalize (dTo C n).has n = hold at hH2
  unfold strV at hV2
  have h4i : (4 : Int) < (n : Int) := by omega
  have d7 : ((n : Int) == 7) = false := by rw [beq_eq_false_iff_ne]; omega
  have d9 : ((n : Int) == 9) = false := by rw [beq_eq_false_iff_ne]; omega
  have d6 : ((n : Int) == 6) = false := by rw [beq_eq_false_iff_ne]; omega
  have hb7 : Hid ((n == 7 || (n == 9 || (n == 6 && C % 2 == 0))) = false) := by
    show _ = _
    simp [n7, n9, n6]
  clear h4 n7 n9 n6
  go_wp2_with fail
  refine hbe.out.mono ?_
  rintro e w8 ⟨rfl, rfl⟩
  go_wp2_with fail
  refine (ref_flagS false _).mono ?_
  rintro e w8 ⟨rfl, rfl⟩
  go_wp2
  refine hK'.out _ _ _ _ _ _ _ _ _ _ _ _ _ _ _ _ _ _ _ _ _ _ _ _ _ _ _ _ _ _ _ _ ?_ ?_ ?_ ?_
  · exact fun _ _ _ h => row_setCell.2 (row_setCell.2 h)
  · exact fun g hg _ h => Fa.farC (Fa.farC h hg) hg
  · rw [hst.out, hb7.out]; exact hD2.out _
  · exact fun B hB _ h => (h.setCell hB _).setCell hB _
set_option maxHeartbeats 8000000 in
theorem m2_body (K : Exit → Act → World → Prop) (C n g11 : Nat) (s0 s1 s2 s3 s4 s5 s6 s7 s9 s10 s13 s14 s15 s16 s17 s18 s19 s20 s21 s22 s23 s24 s25 s26 s27 s28 s29 s30 s31 s32 s33 s34 s35 s36 s37 s38 s39 s40 s41 s42 s43 s44 s45 s46 s47 s48 s49 s50 s51 s52 s53 s54 s55 s56 s57 s58 s59 s60 s61 s62 s63 s64 s65 s66 s67 s68 s69 s70 s71 s72 s73 s74 s75 s76 s77 s78 s79 s80 s81 s82 s83 s84 s85 s86 s87 s88 s89 s90 s91 s92 s93 s94 s95 s96 s97 s98 s99 s100 s101 s102 s103 s104 s105 s106 s107 s108 s109 s110 s111 s112 s113 s114 s115 s116 s117 s118 s119 s120 s121 s122 s123 : Value) (wr : World) (_hn1 : 1 ≤ n) (_hn18 : n ≤ 18) (hD : CrdAt wr g11 (dTo C n))
    (hK : ∀ (t61 t62 t65 t66 t67 t68 t69 t70 t71 t72 t73 t74 t75 t76 t77 t78 t79 t80 t81 t82 t83 t84 t85 t86 t87 t88 t89 t90 t91 t63 t64 : Value) (w2 : World), (∀ g : Nat, g ≠ g11 → ∀ m, Row wr g m → Row w2 g m) → (∀ g : Nat, g ≠ g11 → ∀ X : Crd, CrdAt wr g X → CrdAt w2 g X) → CrdAt w2 g11 (dTo C (n + 1)) → (∀ B : Nat, B ≤ g11 → ∀ w0 : World, Below B w0 wr → Below B w0 w2) → K .normal ⟨#[s0, s1, s2, s3, s4, s5, s6, s7, .int .i64 (C : Nat), s9, s10, .pointer (some ⟨g11, 0, none⟩), .int .i64 ((n : Int) + 1), s13, s14, s15, s16, s17, s18, s19, s20, s21, s22, s23, s24, s25, s26, s27, s28, s29, s30, s31, s32, s33, s34, s35, s36, s37, s38, s39, s40, s41, s42, s43, s44, s45, s46, s47, s48, s49, s50, s51, s52, s53, s54, s55, s56, s57, s58, s59, s60, t61, t62, t63, t64, t65, t66, t67, t68, t69, t70, t71, t72, t73, t74, t75, t76, t77, t78, t79, t80, t81, t82, t83, t84, t85, t86, t87, t88, t89, t90, t91, s92, s93, s94, s95, s96, s97, s98, s99, s100, s101, s102, s103, s104, s105, s106, s107, s108, s109, s110, s111, s112, s113, s114, s115, s116, s117, s118, s119, s120, s121, s122, s123], []⟩ w2) :
    Code.wp Try.prog (loopAt Try.f16 1) K ⟨#[s0, s1, s2, s3, s4, s5, s6, s7, .int .i64 (C : Nat), s9, s10, .pointer (some ⟨g11, 0, none⟩), .int .i64 (n : Nat), s13, s14, s15, s16, s17, s18, s19, s20, s21, s22, s23, s24, s25, s26, s27, s28, s29, s30, s31, s32, s33, s34, s35, s36, s37, s38, s39, s40, s41, s42, s43, s44, s45, s46, s47, s48, s49, s50, s51, s52, s53, s54, s55, s56, s57, s58, s59, s60, s61, s62, s63, s64, s65, s66, s67, s68, s69, s70, s71, s72, s73, s74, s75, s76, s77, s78, s79, s80, s81, s82, s83, s84, s85, s86, s87, s88, s89, s90, s91, s92, s93, s94, s95, s96, s97, s98, s99, s100, s101, s102, s103, s104, s105, s106, s107, s108, s109, s110, s111, s112, s113, s114, s115, s116, s117, s118, s119, s120, s121, s122, s123], []⟩ wr := by
  cases hh : belongs (C : Int) (n : Int) with
  | false => exact m2_no K C n g11 s0 s1 s2 s3 s4 s5 s6 s7 s9 s10 s13 s14 s15 s16 s17 s18 s19 s20 s21 s22 s23 s24 s25 s26 s27 s28 s29 s30 s31 s32 s33 s34 s35 s36 s37 s38 s39 s40 s41 s42 s43 s44 s45 s46 s47 s48 s49 s50 s51 s52 s53 s54 s55 s56 s57 s58 s59 s60 s61 s62 s63 s64 s65 s66 s67 s68 s69 s70 s71 s72 s73 s74 s75 s76 s77 s78 s79 s80 s81 s82 s83 s84 s85 s86 s87 s88 s89 s90 s91 s92 s93 s94 s95 s96 s97 s98 s99 s100 s101 s102 s103 s104 s105 s106 s107 s108 s109 s110 s111 s112 s113 s114 s115 s116 s117 s118 s119 s120 s121 s122 s123 wr _hn1 _hn18 hD hh hK
  | true =>
    by_cases h4 : n ≤ 4
    · exact m2_low K C n g11 s0 s1 s2 s3 s4 s5 s6 s7 s9 s10 s13 s14 s15 s16 s17 s18 s19 s20 s21 s22 s23 s24 s25 s26 s27 s28 s29 s30 s31 s32 s33 s34 s35 s36 s37 s38 s39 s40 s41 s42 s43 s44 s45 s46 s47 s48 s49 s50 s51 s52 s53 s54 s55 s56 s57 s58 s59 s60 s61 s62 s63 s64 s65 s66 s67 s68 s69 s70 s71 s72 s73 s74 s75 s76 s77 s78 s79 s80 s81 s82 s83 s84 s85 s86 s87 s88 s89 s90 s91 s92 s93 s94 s95 s96 s97 s98 s99 s100 s101 s102 s103 s104 s105 s106 s107 s108 s109 s110 s111 s112 s113 s114 s115 s116 s117 s118 s119 s120 s121 s122 s123 wr _hn1 _hn18 hD hh h4 hK
    · have h4 : 4 < n := by omega
      by_cases n7 : n = 7
      · exact m2_seven K C n g11 s0 s1 s2 s3 s4 s5 s6 s7 s9 s10 s13 s14 s15 s16 s17 s18 s19 s20 s21 s22 s23 s24 s25 s26 s27 s28 s29 s30 s31 s32 s33 s34 s35 s36 s37 s38 s39 s40 s41 s42 s43 s44 s45 s46 s47 s48 s49 s50 s51 s52 s53 s54 s55 s56 s57 s58 s59 s60 s61 s62 s63 s64 s65 s66 s67 s68 s69 s70 s71 s72 s73 s74 s75 s76 s77 s78 s79 s80 s81 s82 s83 s84 s85 s86 s87 s88 s89 s90 s91 s92 s93 s94 s95 s96 s97 s98 s99 s100 s101 s102 s103 s104 s105 s106 s107 s108 s109 s110 s111 s112 s113 s114 s115 s116 s117 s118 s119 s120 s121 s122 s123 wr _hn1 _hn18 hD hh h4 n7 hK
      by_cases n9 : n = 9
      · exact m2_nine K C n g11 s0 s1 s2 s3 s4 s5 s6 s7 s9 s10 s13 s14 s15 s16 s17 s18 s19 s20 s21 s22 s23 s24 s25 s26 s27 s28 s29 s30 s31 s32 s33 s34 s35 s36 s37 s38 s39 s40 s41 s42 s43 s44 s45 s46 s47 s48 s49 s50 s51 s52 s53 s54 s55 s56 s57 s58 s59 s60 s61 s62 s63 s64 s65 s66 s67 s68 s69 s70 s71 s72 s73 s74 s75 s76 s77 s78 s79 s80 s81 s82 s83 s84 s85 s86 s87 s88 s89 s90 s91 s92 s93 s94 s95 s96 s97 s98 s99 s100 s101 s102 s103 s104 s105 s106 s107 s108 s109 s110 s111 s112 s113 s114 s115 s116 s117 s118 s119 s120 s121 s122 s123 wr _hn1 _hn18 hD hh h4 n9 hK
      by_cases n6 : n = 6
      · by_cases ev : C % 2 = 0
        · exact m2_sixE K C n g11 s0 s1 s2 s3 s4 s5 s6 s7 s9 s10 s13 s14 s15 s16 s17 s18 s19 s20 s21 s22 s23 s24 s25 s26 s27 s28 s29 s30 s31 s32 s33 s34 s35 s36 s37 s38 s39 s40 s41 s42 s43 s44 s45 s46 s47 s48 s49 s50 s51 s52 s53 s54 s55 s56 s57 s58 s59 s60 s61 s62 s63 s64 s65 s66 s67 s68 s69 s70 s71 s72 s73 s74 s75 s76 s77 s78 s79 s80 s81 s82 s83 s84 s85 s86 s87 s88 s89 s90 s91 s92 s93 s94 s95 s96 s97 s98 s99 s100 s101 s102 s103 s104 s105 s106 s107 s108 s109 s110 s111 s112 s113 s114 s115 s116 s117 s118 s119 s120 s121 s122 s123 wr _hn1 _hn18 hD hh h4 n6 ev hK
        · exact m2_sixO K C n g11 s0 s1 s2 s3 s4 s5 s6 s7 s9 s10 s13 s14 s15 s16 s17 s18 s19 s20 s21 s22 s23 s24 s25 s26 s27 s28 s29 s30 s31 s32 s33 s34 s35 s36 s37 s38 s39 s40 s41 s42 s43 s44 s45 s46 s47 s48 s49 s50 s51 s52 s53 s54 s55 s56 s57 s58 s59 s60 s61 s62 s63 s64 s65 s66 s67 s68 s69 s70 s71 s72 s73 s74 s75 s76 s77 s78 s79 s80 s81 s82 s83 s84 s85 s86 s87 s88 s89 s90 s91 s92 s93 s94 s95 s96 s97 s98 s99 s100 s101 s102 s103 s104 s105 s106 s107 s108 s109 s110 s111 s112 s113 s114 s115 s116 s117 s118 s119 s120 s121 s122 s123 wr _hn1 _hn18 hD hh h4 n6 ev hK
      · exact m2_else K C n g11 s0 s1 s2 s3 s4 s5 s6 s7 s9 s10 s13 s14 s15 s16 s17 s18 s19 s20 s21 s22 s23 s24 s25 s26 s27 s28 s29 s30 s31 s32 s33 s34 s35 s36 s37 s38 s39 s40 s41 s42 s43 s44 s45 s46 s47 s48 s49 s50 s51 s52 s53 s54 s55 s56 s57 s58 s59 s60 s61 s62 s63 s64 s65 s66 s67 s68 s69 s70 s71 s72 s73 s74 s75 s76 s77 s78 s79 s80 s81 s82 s83 s84 s85 s86 s87 s88 s89 s90 s91 s92 s93 s94 s95 s96 s97 s98 s99 s100 s101 s102 s103 s104 s105 s106 s107 s108 s109 s110 s111 s112 s113 s114 s115 s116 s117 s118 s119 s120 s121 s122 s123 wr _hn1 _hn18 hD hh h4 n7 n9 n6 hK
set_option maxHeartbeats 8000000 in
theorem m2_end (K : Exit → Act → World → Prop) (C g11 : Nat) (s0 s1 s2 s3 s4 s5 s6 s7 s9 s10 s13 s14 s15 s16 s17 s18 s19 s20 s21 s22 s23 s24 s25 s26 s27 s28 s29 s30 s31 s32 s33 s34 s35 s36 s37 s38 s39 s40 s41 s42 s43 s44 s45 s46 s47 s48 s49 s50 s51 s52 s53 s54 s55 s56 s57 s58 s59 s60 s61 s62 s63 s64 s65 s66 s67 s68 s69 s70 s71 s72 s73 s74 s75 s76 s77 s78 s79 s80 s81 s82 s83 s84 s85 s86 s87 s88 s89 s90 s91 s92 s93 s94 s95 s96 s97 s98 s99 s100 s101 s102 s103 s104 s105 s106 s107 s108 s109 s110 s111 s112 s113 s114 s115 s116 s117 s118 s119 s120 s121 s122 s123 : Value) (wr : World) (hK : ∀ t61 t62 : Value, K (.exit 2) ⟨#[s0, s1, s2, s3, s4, s5, s6, s7, .int .i64 (C : Nat), s9, s10, .pointer (some ⟨g11, 0, none⟩), .int .i64 19, s13, s14, s15, s16, s17, s18, s19, s20, s21, s22, s23, s24, s25, s26, s27, s28, s29, s30, s31, s32, s33, s34, s35, s36, s37, s38, s39, s40, s41, s42, s43, s44, s45, s46, s47, s48, s49, s50, s51, s52, s53, s54, s55, s56, s57, s58, s59, s60, t61, t62, s63, s64, s65, s66, s67, s68, s69, s70, s71, s72, s73, s74, s75, s76, s77, s78, s79, s80, s81, s82, s83, s84, s85, s86, s87, s88, s89, s90, s91, s92, s93, s94, s95, s96, s97, s98, s99, s100, s101, s102, s103, s104, s105, s106, s107, s108, s109, s110, s111, s112, s113, s114, s115, s116, s117, s118, s119, s120, s121, s122, s123], []⟩ wr) :
    Code.wp Try.prog (loopAt Try.f16 1) K ⟨#[s0, s1, s2, s3, s4, s5, s6, s7, .int .i64 (C : Nat), s9, s10, .pointer (some ⟨g11, 0, none⟩), .int .i64 ((19 : Nat) : Int), s13, s14, s15, s16, s17, s18, s19, s20, s21, s22, s23, s24, s25, s26, s27, s28, s29, s30, s31, s32, s33, s34, s35, s36, s37, s38, s39, s40, s41, s42, s43, s44, s45, s46, s47, s48, s49, s50, s51, s52, s53, s54, s55, s56, s57, s58, s59, s60, s61, s62, s63, s64, s65, s66, s67, s68, s69, s70, s71, s72, s73, s74, s75, s76, s77, s78, s79, s80, s81, s82, s83, s84, s85, s86, s87, s88, s89, s90, s91, s92, s93, s94, s95, s96, s97, s98, s99, s100, s101, s102, s103, s104, s105, s106, s107, s108, s109, s110, s111, s112, s113, s114, s115, s116, s117, s118, s119, s120, s121, s122, s123], []⟩ wr := by
  conv => arg 2; whnf
  rw [show ((19 : Nat) : Int) = (19 : Int) from rfl]
  have hK' := Lib.hid hK
  clear hK
  go_wp2
  exact hK'.out _ _
set_option maxHeartbeats 8000000 in
theorem m2_loop (Q : Exit → Act → World → Prop) (C g11 : Nat) (s0 s1 s2 s3 s4 s5 s6 s7 s9 s10 s13 s14 s15 s16 s17 s18 s19 s20 s21 s22 s23 s24 s25 s26 s27 s28 s29 s30 s31 s32 s33 s34 s35 s36 s37 s38 s39 s40 s41 s42 s43 s44 s45 s46 s47 s48 s49 s50 s51 s52 s53 s54 s55 s56 s57 s58 s59 s60 s61 s62 s63 s64 s65 s66 s67 s68 s69 s70 s71 s72 s73 s74 s75 s76 s77 s78 s79 s80 s81 s82 s83 s84 s85 s86 s87 s88 s89 s90 s91 s92 s93 s94 s95 s96 s97 s98 s99 s100 s101 s102 s103 s104 s105 s106 s107 s108 s109 s110 s111 s112 s113 s114 s115 s116 s117 s118 s119 s120 s121 s122 s123 : Value) (w : World) (hD : CrdAt w g11 (dTo C 1))
    (hK : ∀ (t61 t62 t65 t66 t67 t68 t69 t70 t71 t72 t73 t74 t75 t76 t77 t78 t79 t80 t81 t82 t83 t84 t85 t86 t87 t88 t89 t90 t91 t63 t64 : Value) (w2 : World), (∀ g : Nat, g ≠ g11 → ∀ m, Row w g m → Row w2 g m) → (∀ g : Nat, g ≠ g11 → ∀ X : Crd, CrdAt w g X → CrdAt w2 g X) → CrdAt w2 g11 (dTo C 19) → (∀ B : Nat, B ≤ g11 → ∀ w0 : World, Below B w0 w → Below B w0 w2) → Q (.exit 2) ⟨#[s0, s1, s2, s3, s4, s5, s6, s7, .int .i64 (C : Nat), s9, s10, .pointer (some ⟨g11, 0, none⟩), .int .i64 19, s13, s14, s15, s16, s17, s18, s19, s20, s21, s22, s23, s24, s25, s26, s27, s28, s29, s30, s31, s32, s33, s34, s35, s36, s37, s38, s39, s40, s41, s42, s43, s44, s45, s46, s47, s48, s49, s50, s51, s52, s53, s54, s55, s56, s57, s58, s59, s60, t61, t62, t63, t64, t65, t66, t67, t68, t69, t70, t71, t72, t73, t74, t75, t76, t77, t78, t79, t80, t81, t82, t83, t84, t85, t86, t87, t88, t89, t90, t91, s92, s93, s94, s95, s96, s97, s98, s99, s100, s101, s102, s103, s104, s105, s106, s107, s108, s109, s110, s111, s112, s113, s114, s115, s116, s117, s118, s119, s120, s121, s122, s123], []⟩ w2) :
    Code.wp Try.prog (.loop (loopAt Try.f16 1)) Q ⟨#[s0, s1, s2, s3, s4, s5, s6, s7, .int .i64 (C : Nat), s9, s10, .pointer (some ⟨g11, 0, none⟩), .int .i64 1, s13, s14, s15, s16, s17, s18, s19, s20, s21, s22, s23, s24, s25, s26, s27, s28, s29, s30, s31, s32, s33, s34, s35, s36, s37, s38, s39, s40, s41, s42, s43, s44, s45, s46, s47, s48, s49, s50, s51, s52, s53, s54, s55, s56, s57, s58, s59, s60, s61, s62, s63, s64, s65, s66, s67, s68, s69, s70, s71, s72, s73, s74, s75, s76, s77, s78, s79, s80, s81, s82, s83, s84, s85, s86, s87, s88, s89, s90, s91, s92, s93, s94, s95, s96, s97, s98, s99, s100, s101, s102, s103, s104, s105, s106, s107, s108, s109, s110, s111, s112, s113, s114, s115, s116, s117, s118, s119, s120, s121, s122, s123], []⟩ w := by
  have hK' := Lib.hid hK
  clear hK
  refine wp_loop (fun a w' => ∃ (n : Nat) (f : Nat → Value), 1 ≤ n ∧ n ≤ 19 ∧ a = ⟨#[s0, s1, s2, s3, s4, s5, s6, s7, .int .i64 (C : Nat), s9, s10, .pointer (some ⟨g11, 0, none⟩), .int .i64 (n : Nat), s13, s14, s15, s16, s17, s18, s19, s20, s21, s22, s23, s24, s25, s26, s27, s28, s29, s30, s31, s32, s33, s34, s35, s36, s37, s38, s39, s40, s41, s42, s43, s44, s45, s46, s47, s48, s49, s50, s51, s52, s53, s54, s55, s56, s57, s58, s59, s60, (f 61), (f 62), (f 63), (f 64), (f 65), (f 66), (f 67), (f 68), (f 69), (f 70), (f 71), (f 72), (f 73), (f 74), (f 75), (f 76), (f 77), (f 78), (f 79), (f 80), (f 81), (f 82), (f 83), (f 84), (f 85), (f 86), (f 87), (f 88), (f 89), (f 90), (f 91), s92, s93, s94, s95, s96, s97, s98, s99, s100, s101, s102, s103, s104, s105, s106, s107, s108, s109, s110, s111, s112, s113, s114, s115, s116, s117, s118, s119, s120, s121, s122, s123], []⟩ ∧ (∀ g : Nat, g ≠ g11 → ∀ m, Row w g m → Row w' g m) ∧ (∀ g : Nat, g ≠ g11 → ∀ X : Crd, CrdAt w g X → CrdAt w' g X) ∧ CrdAt w' g11 (dTo C n) ∧ (∀ B : Nat, B ≤ g11 → ∀ w0 : World, Below B w0 w → Below B w0 w')) (fun a _ => 19 - (intOf (a.tmps.getD 12 undef)).toNat) ?_ ?_
  · exact ⟨1, fun i => ([s61, s62, s65, s66, s67, s68, s69, s70, s71, s72, s73, s74, s75, s76, s77, s78, s79, s80, s81, s82, s83, s84, s85, s86, s87, s88, s89, s90, s91, s63, s64][[61, 62, 65, 66, 67, 68, 69, 70, 71, 72, 73, 74, 75, 76, 77, 78, 79, 80, 81, 82, 83, 84, 85, 86, 87, 88, 89, 90, 91, 63, 64].idxOf i]?).getD undef, by omega, by omega, rfl, fun _ _ _ h => h, fun _ _ _ h => h, hD, fun _ _ _ h => h⟩
  · rintro a w' ⟨n, f, h1, h2, rfl, hR, hC, hD, hB⟩
    by_cases hn : n = 19
    · subst hn
      refine m2_end _ C g11 _ _ _ _ _ _ _ _ _ _ _ _ _ _ _ _ _ _ _ _ _ _ _ _ _ _ _ _ _ _ _ _ _ _ _ _ _ _ _ _ _ _ _ _ _ _ _ _ _ _ _ _ _ _ _ _ _ _ _ _ _ _ _ _ _ _ _ _ _ _ _ _ _ _ _ _ _ _ _ _ _ _ _ _ _ _ _ _ _ _ _ _ _ _ _ _ _ _ _ _ _ _ _ _ _ _ _ _ _ _ _ _ _ _ _ _ _ _ _ _ _ w' ?_
      intro t61 t62
      exact hK'.out t61 t62 (f 65) (f 66) (f 67) (f 68) (f 69) (f 70) (f 71) (f 72) (f 73) (f 74) (f 75) (f 76) (f 77) (f 78) (f 79) (f 80) (f 81) (f 82) (f 83) (f 84) (f 85) (f 86) (f 87) (f 88) (f 89) (f 90) (f 91) (f 63) (f 64) w' hR hC hD hB
    · refine m2_body _ C n g11 _ _ _ _ _ _ _ _ _ _ _ _ _ _ _ _ _ _ _ _ _ _ _ _ _ _ _ _ _ _ _ _ _ _ _ _ _ _ _ _ _ _ _ _ _ _ _ _ _ _ _ _ _ _ _ _ _ _ _ _ _ _ _ _ _ _ _ _ _ _ _ _ _ _ _ _ _ _ _ _ _ _ _ _ _ _ _ _ _ _ _ _ _ _ _ _ _ _ _ _ _ _ _ _ _ _ _ _ _ _ _ _ _ _ _ _ _ _ _ _ _ w' h1 (by omega) hD ?_
      intro t61 t62 t65 t66 t67 t68 t69 t70 t71 t72 t73 t74 t75 t76 t77 t78 t79 t80 t81 t82 t83 t84 t85 t86 t87 t88 t89 t90 t91 t63 t64 w2 hR2 hC2 hD2 hB2
      refine ⟨⟨n + 1, fun i => ([t61, t62, t65, t66, t67, t68, t69, t70, t71, t72, t73, t74, t75, t76, t77, t78, t79, t80, t81, t82, t83, t84, t85, t86, t87, t88, t89, t90, t91, t63, t64][[61, 62, 65, 66, 67, 68, 69, 70, 71, 72, 73, 74, 75, 76, 77, 78, 79, 80, 81, 82, 83, 84, 85, 86, 87, 88, 89, 90, 91, 63, 64].idxOf i]?).getD undef, by omega, by omega, ?_, fun g hg m h => hR2 g hg m (hR g hg m h), fun g hg X h => hC2 g hg X (hC g hg X h), hD2, fun B hB' w0 h => hB2 B hB' w0 (hB B hB' w0 h)⟩, ?_⟩
      · rw [show ((n + 1 : Nat) : Int) = (n : Int) + 1 from by omega]; rfl
      · simp [intOf]; omega
end Go.Proofs.Ytdlmamnnamlleaa
