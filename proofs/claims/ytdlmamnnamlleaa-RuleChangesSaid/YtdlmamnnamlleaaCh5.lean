/- The loop of the document's Turned, apart from the function that it stands in. -/
import Derived.Test.YtdlmamnnamlleaaRv1
import Derived.Test.YtdlmamnnamlleaaCh3
namespace Go.Proofs.Ytdlmamnnamlleaa
open Go.ChangeShapes Go.WideShapes Go.ChangeAt Go.RowKit
set_option maxHeartbeats 1000000
set_option maxRecDepth 100000
attribute [local go_sem] kp_refl kp_alloc kp_setCell kp_drew kp_drewN row_old rowAt_new rowAt_old
attribute [local go_sem ↓] load_Crd store_Crd execl_Crd execs_Crd
attribute [local go_sem] isHead_mk blkOf_mk isAgg_mk cellsV_mk row_drew rowAt_drew row_new_cells setRow_new crd_zero

/-- What a template must not set. -/
def badR (one : Nat → Bool) (k y : Nat) (cp : Bool) : Bool :=
  if k = 1 ∨ k = 4 ∨ k = 10 ∨ k = 11 ∨ k = 12 then true else if k = 5 then !cp else if k = 6 then !cp || (y == 0 && one 6) else if k = 8 then y == 0 && one 8 else if k = 9 then y == 1 && !one 9 else false
theorem conv_at {w W : World} {A : Option Addr} {b : List UInt8} {c : Nat} {B : Nat} (h : Rd w B A (bytesV b)) (hW : Kp B w W) : (convert 59 9 (.slice A b.length c)).run Try.prog W = .ok (.string ⟨b.toArray⟩) W :=
  conv_rd Try.underlying59 Try.underlying5 Try.underlying9 (h.kp hW)

set_option maxHeartbeats 8000000 in
theorem tu_no (K : Exit → Act → World → Prop) (cp : Bool) (X : Crd) (ad : Addr) (xA : Option Addr) (xb : List UInt8) (j L c2 xc n g6 g8 y : Nat) (s0 s1 s3 s4 s5 s7 s9 s10 s11 s12 s13 s14 s15 s16 s17 s18 s19 s20 s21 s22 s23 s24 s25 s26 s27 s28 s29 s30 s31 s32 s33 s34 s35 s36 s37 s38 s39 s40 s41 s42 s43 s44 s45 s46 s50 s51 s52 s53 s54 s55 s56 s57 s58 s59 s60 s61 s62 s63 s64 s65 s66 s67 s68 s69 s70 s71 s72 s73 s74 s75 s76 s77 s78 s79 s80 s81 s82 s83 s84 s85 s86 s87 s88 s89 s90 s91 s92 s93 s94 s95 s96 s97 s98 s99 s100 s101 s102 s103 s104 s105 s106 s107 s108 s109 s110 s111 s112 s113 s114 s115 s116 s117 s118 : Value) (wr : World) (hjl : j < L) (_hn1 : 1 ≤ n) (_hn18 : n ≤ 18) (hr : Row wr g6 38) (hX : CrdAt wr g8 X) (q1 : wr.cell? (ad.add (j * 2)) = some (.int .i64 (n : Nat))) (q2 : wr.cell? ⟨(ad.add (j * 2)).block, (ad.add (j * 2)).off + 1, none⟩ = some (.slice xA xb.length xc)) (_b1 : Rd wr wr.heap.size xA (bytesV xb)) (_hbl : ad.block < wr.heap.size) (_hg : g6 ≠ g8) (hLL : L ≤ 9223372036854775807) (hh : X.has n = false)
    (hKr : ∀ (t11 t12 t13 t50 t51 t52 t53 t54 t55 t56 t57 t58 t59 t60 t61 t62 t63 t64 t65 t66 t67 t68 t69 t70 t71 t72 t73 t74 t75 t76 t77 t78 t79 t80 t81 t82 t83 t84 t85 t86 t87 t88 t89 t90 t91 t92 t93 t94 t95 t96 t97 t98 t99 t100 t101 t102 t103 t104 t105 t106 t107 t108 t109 : Value) (z : Int) (w2 : World), Below wr.heap.size wr w2 → (z = 13 ∧ X.has n = false ∨ z = 12 ∧ X.has n = true ∧ badR X.one n y cp = true) → K .ret ⟨#[s0, s1, .bool cp, s3, s4, s5, .pointer (some ⟨g6, 0, none⟩), .int .i64 z, .pointer (some ⟨g8, 0, none⟩), s9, s10, t11, t12, t13, s14, s15, s16, s17, s18, s19, s20, s21, s22, s23, s24, s25, s26, s27, s28, s29, s30, s31, s32, s33, s34, s35, s36, s37, s38, s39, s40, s41, s42, s43, s44, s45, s46, .slice (some ad) L c2, .int .i64 (L : Nat), .int .i64 (j : Nat), t50, t51, t52, t53, t54, t55, t56, t57, t58, t59, t60, t61, t62, t63, t64, t65, t66, t67, t68, t69, t70, t71, t72, t73, t74, t75, t76, t77, t78, t79, t80, t81, t82, t83, t84, t85, t86, t87, t88, t89, t90, t91, t92, t93, t94, t95, t96, t97, t98, t99, t100, t101, t102, t103, t104, t105, t106, t107, t108, t109, s110, s111, s112, s113, s114, s115, s116, s117, s118], []⟩ (w2.setRow g6 (crdA crd0)))
    (hKn : ∀ (t11 t12 t13 t50 t51 t52 t53 t54 t55 t56 t57 t58 t59 t60 t61 t62 t63 t64 t65 t66 t67 t68 t69 t70 t71 t72 t73 t74 t75 t76 t77 t78 t79 t80 t81 t82 t83 t84 t85 t86 t87 t88 t89 t90 t91 t92 t93 t94 t95 t96 t97 t98 t99 t100 t101 t102 t103 t104 t105 t106 t107 t108 t109 : Value) (w2 : World), Below wr.heap.size wr w2 → X.has n = true → badR X.one n y cp = false → K .normal ⟨#[s0, s1, .bool cp, s3, s4, s5, .pointer (some ⟨g6, 0, none⟩), s7, .pointer (some ⟨g8, 0, none⟩), s9, s10, t11, t12, t13, s14, s15, s16, s17, s18, s19, s20, s21, s22, s23, s24, s25, s26, s27, s28, s29, s30, s31, s32, s33, s34, s35, s36, s37, s38, s39, s40, s41, s42, s43, s44, s45, s46, .slice (some ad) L c2, .int .i64 (L : Nat), .int .i64 ((j : Int) + 1), t50, t51, t52, t53, t54, t55, t56, t57, t58, t59, t60, t61, t62, t63, t64, t65, t66, t67, t68, t69, t70, t71, t72, t73, t74, t75, t76, t77, t78, t79, t80, t81, t82, t83, t84, t85, t86, t87, t88, t89, t90, t91, t92, t93, t94, t95, t96, t97, t98, t99, t100, t101, t102, t103, t104, t105, t106, t107, t108, t109, s110, s111, s112, s113, s114, s115, s116, s117, s118], []⟩ w2) :
    Code.wp Try.prog (loopAt Try.f52 0) K ⟨#[s0, s1, .bool cp, s3, s4, s5, .pointer (some ⟨g6, 0, none⟩), s7, .pointer (some ⟨g8, 0, none⟩), s9, s10, s11, s12, s13, s14, s15, s16, s17, s18, s19, s20, s21, s22, s23, s24, s25, s26, s27, s28, s29, s30, s31, s32, s33, s34, s35, s36, s37, s38, s39, s40, s41, s42, s43, s44, s45, s46, .slice (some ad) L c2, .int .i64 (L : Nat), .int .i64 (j : Nat), s50, s51, s52, s53, s54, s55, s56, s57, s58, s59, s60, s61, s62, s63, s64, s65, s66, s67, s68, s69, s70, s71, s72, s73, s74, s75, s76, s77, s78, s79, s80, s81, s82, s83, s84, s85, s86, s87, s88, s89, s90, s91, s92, s93, s94, s95, s96, s97, s98, s99, s100, s101, s102, s103, s104, s105, s106, s107, s108, s109, s110, s111, s112, s113, s114, s115, s116, s117, s118], []⟩ wr := by
  conv => arg 2; whnf
  have hKr' := Lib.hid hKr
  have hKn' := Lib.hid hKn
  clear hKr hKn
  have hjl2 : (j : Int) < (L : Int) := by omega
  have hn19 : (n : Int) < 19 := by omega
  have hw1 : IntKind.i64.wrap ((j : Int) + 1) = (j : Int) + 1 := by rw [IntKind.wrap_i64]; omega
  have hbW := below_alloc' wr (.cells #[.int .i64 (n : Nat), .slice xA xb.length xc] 120)
  have hr2 := row_below hr hbW hr.lt
  have hX2 := hX.step hbW
  have hH2 := hX2.cellH (show n < 19 by omega)
  have hcz := crd_cells crd0
  have hhH := Lib.hid hh
  rw [hh] at hH2
  clear hh _b1
  go_wp2
  refine hKr'.out _ _ _ _ _ _ _ _ _ _ _ _ _ _ _ _ _ _ _ _ _ _ _ _ _ _ _ _ _ _ _ _ _ _ _ _ _ _ _ _ _ _ _ _ _ _ _ _ _ _ _ _ _ _ _ _ _ _ _ _ _ _ _ _ _ ?_ ?_
  · exact hbW
  · exact .inl ⟨rfl, hhH.out⟩
set_option maxHeartbeats 8000000 in
theorem tu_k1 (K : Exit → Act → World → Prop) (cp : Bool) (X : Crd) (ad : Addr) (xA : Option Addr) (xb : List UInt8) (j L c2 xc n g6 g8 y : Nat) (s0 s1 s3 s4 s5 s7 s9 s10 s11 s12 s13 s14 s15 s16 s17 s18 s19 s20 s21 s22 s23 s24 s25 s26 s27 s28 s29 s30 s31 s32 s33 s34 s35 s36 s37 s38 s39 s40 s41 s42 s43 s44 s45 s46 s50 s51 s52 s53 s54 s55 s56 s57 s58 s59 s60 s61 s62 s63 s64 s65 s66 s67 s68 s69 s70 s71 s72 s73 s74 s75 s76 s77 s78 s79 s80 s81 s82 s83 s84 s85 s86 s87 s88 s89 s90 s91 s92 s93 s94 s95 s96 s97 s98 s99 s100 s101 s102 s103 s104 s105 s106 s107 s108 s109 s110 s111 s112 s113 s114 s115 s116 s117 s118 : Value) (wr : World) (hjl : j < L) (_hn1 : 1 ≤ n) (_hn18 : n ≤ 18) (hr : Row wr g6 38) (hX : CrdAt wr g8 X) (q1 : wr.cell? (ad.add (j * 2)) = some (.int .i64 (n : Nat))) (q2 : wr.cell? ⟨(ad.add (j * 2)).block, (ad.add (j * 2)).off + 1, none⟩ = some (.slice xA xb.length xc)) (_b1 : Rd wr wr.heap.size xA (bytesV xb)) (_hbl : ad.block < wr.heap.size) (_hg : g6 ≠ g8) (hLL : L ≤ 9223372036854775807) (hh : X.has n = true) (hn : n = 1)
    (hKr : ∀ (t11 t12 t13 t50 t51 t52 t53 t54 t55 t56 t57 t58 t59 t60 t61 t62 t63 t64 t65 t66 t67 t68 t69 t70 t71 t72 t73 t74 t75 t76 t77 t78 t79 t80 t81 t82 t83 t84 t85 t86 t87 t88 t89 t90 t91 t92 t93 t94 t95 t96 t97 t98 t99 t100 t101 t102 t103 t104 t105 t106 t107 t108 t109 : Value) (z : Int) (w2 : World), Below wr.heap.size wr w2 → (z = 13 ∧ X.has n = false ∨ z = 12 ∧ X.has n = true ∧ badR X.one n y cp = true) → K .ret ⟨#[s0, s1, .bool cp, s3, s4, s5, .pointer (some ⟨g6, 0, none⟩), .int .i64 z, .pointer (some ⟨g8, 0, none⟩), s9, s10, t11, t12, t13, s14, s15, s16, s17, s18, s19, s20, s21, s22, s23, s24, s25, s26, s27, s28, s29, s30, s31, s32, s33, s34, s35, s36, s37, s38, s39, s40, s41, s42, s43, s44, s45, s46, .slice (some ad) L c2, .int .i64 (L : Nat), .int .i64 (j : Nat), t50, t51, t52, t53, t54, t55, t56, t57, t58, t59, t60, t61, t62, t63, t64, t65, t66, t67, t68, t69, t70, t71, t72, t73, t74, t75, t76, t77, t78, t79, t80, t81, t82, t83, t84, t85, t86, t87, t88, t89, t90, t91, t92, t93, t94, t95, t96, t97, t98, t99, t100, t101, t102, t103, t104, t105, t106, t107, t108, t109, s110, s111, s112, s113, s114, s115, s116, s117, s118], []⟩ (w2.setRow g6 (crdA crd0)))
    (hKn : ∀ (t11 t12 t13 t50 t51 t52 t53 t54 t55 t56 t57 t58 t59 t60 t61 t62 t63 t64 t65 t66 t67 t68 t69 t70 t71 t72 t73 t74 t75 t76 t77 t78 t79 t80 t81 t82 t83 t84 t85 t86 t87 t88 t89 t90 t91 t92 t93 t94 t95 t96 t97 t98 t99 t100 t101 t102 t103 t104 t105 t106 t107 t108 t109 : Value) (w2 : World), Below wr.heap.size wr w2 → X.has n = true → badR X.one n y cp = false → K .normal ⟨#[s0, s1, .bool cp, s3, s4, s5, .pointer (some ⟨g6, 0, none⟩), s7, .pointer (some ⟨g8, 0, none⟩), s9, s10, t11, t12, t13, s14, s15, s16, s17, s18, s19, s20, s21, s22, s23, s24, s25, s26, s27, s28, s29, s30, s31, s32, s33, s34, s35, s36, s37, s38, s39, s40, s41, s42, s43, s44, s45, s46, .slice (some ad) L c2, .int .i64 (L : Nat), .int .i64 ((j : Int) + 1), t50, t51, t52, t53, t54, t55, t56, t57, t58, t59, t60, t61, t62, t63, t64, t65, t66, t67, t68, t69, t70, t71, t72, t73, t74, t75, t76, t77, t78, t79, t80, t81, t82, t83, t84, t85, t86, t87, t88, t89, t90, t91, t92, t93, t94, t95, t96, t97, t98, t99, t100, t101, t102, t103, t104, t105, t106, t107, t108, t109, s110, s111, s112, s113, s114, s115, s116, s117, s118], []⟩ w2) :
    Code.wp Try.prog (loopAt Try.f52 0) K ⟨#[s0, s1, .bool cp, s3, s4, s5, .pointer (some ⟨g6, 0, none⟩), s7, .pointer (some ⟨g8, 0, none⟩), s9, s10, s11, s12, s13, s14, s15, s16, s17, s18, s19, s20, s21, s22, s23, s24, s25, s26, s27, s28, s29, s30, s31, s32, s33, s34, s35, s36, s37, s38, s39, s40, s41, s42, s43, s44, s45, s46, .slice (some ad) L c2, .int .i64 (L : Nat), .int .i64 (j : Nat), s50, s51, s52, s53, s54, s55, s56, s57, s58, s59, s60, s61, s62, s63, s64, s65, s66, s67, s68, s69, s70, s71, s72, s73, s74, s75, s76, s77, s78, s79, s80, s81, s82, s83, s84, s85, s86, s87, s88, s89, s90, s91, s92, s93, s94, s95, s96, s97, s98, s99, s100, s101, s102, s103, s104, s105, s106, s107, s108, s109, s110, s111, s112, s113, s114, s115, s116, s117, s118], []⟩ wr := by
  conv => arg 2; whnf
  have hKr' := Lib.hid hKr
  have hKn' := Lib.hid hKn
  clear hKr hKn
  have hjl2 : (j : Int) < (L : Int) := by omega
  have hn19 : (n : Int) < 19 := by omega
  have hw1 : IntKind.i64.wrap ((j : Int) + 1) = (j : Int) + 1 := by rw [IntKind.wrap_i64]; omega
  have hbW := below_alloc' wr (.cells #[.int .i64 (n : Nat), .slice xA xb.length xc] 120)
  have hr2 := row_below hr hbW hr.lt
  have hX2 := hX.step hbW
  have hH2 := hX2.cellH (show n < 19 by omega)
  have hcz := crd_cells crd0
  have hbad : Hid (badR X.one n y cp = true) := by show _ = _; unfold badR; rw [if_pos (by omega)]
  have dn : ((n : Int) == 1) = true := by rw [beq_iff_eq]; omega
  clear hn
  have hhH := Lib.hid hh
  have hcv : ∀ W : World, Kp wr.heap.size wr W → (convert 59 9 (.slice xA xb.length xc)).run Try.prog W = .ok (.string ⟨xb.toArray⟩) W := fun W hW => conv_at _b1 hW
  rw [hh] at hH2
  clear hh _b1
  have hbL := hbW
  go_wp2
  refine hKr'.out _ _ _ _ _ _ _ _ _ _ _ _ _ _ _ _ _ _ _ _ _ _ _ _ _ _ _ _ _ _ _ _ _ _ _ _ _ _ _ _ _ _ _ _ _ _ _ _ _ _ _ _ _ _ _ _ _ _ _ _ _ _ _ _ _ ?_ ?_
  · exact hbL
  · exact .inr ⟨rfl, hhH.out, hbad.out⟩
set_option maxHeartbeats 8000000 in
theorem tu_k4 (K : Exit → Act → World → Prop) (cp : Bool) (X : Crd) (ad : Addr) (xA : Option Addr) (xb : List UInt8) (j L c2 xc n g6 g8 y : Nat) (s0 s1 s3 s4 s5 s7 s9 s10 s11 s12 s13 s14 s15 s16 s17 s18 s19 s20 s21 s22 s23 s24 s25 s26 s27 s28 s29 s30 s31 s32 s33 s34 s35 s36 s37 s38 s39 s40 s41 s42 s43 s44 s45 s46 s50 s51 s52 s53 s54 s55 s56 s57 s58 s59 s60 s61 s62 s63 s64 s65 s66 s67 s68 s69 s70 s71 s72 s73 s74 s75 s76 s77 s78 s79 s80 s81 s82 s83 s84 s85 s86 s87 s88 s89 s90 s91 s92 s93 s94 s95 s96 s97 s98 s99 s100 s101 s102 s103 s104 s105 s106 s107 s108 s109 s110 s111 s112 s113 s114 s115 s116 s117 s118 : Value) (wr : World) (hjl : j < L) (_hn1 : 1 ≤ n) (_hn18 : n ≤ 18) (hr : Row wr g6 38) (hX : CrdAt wr g8 X) (q1 : wr.cell? (ad.add (j * 2)) = some (.int .i64 (n : Nat))) (q2 : wr.cell? ⟨(ad.add (j * 2)).block, (ad.add (j * 2)).off + 1, none⟩ = some (.slice xA xb.length xc)) (_b1 : Rd wr wr.heap.size xA (bytesV xb)) (_hbl : ad.block < wr.heap.size) (_hg : g6 ≠ g8) (hLL : L ≤ 9223372036854775807) (hh : X.has n = true) (hn : n = 4)
    (hKr : ∀ (t11 t12 t13 t50 t51 t52 t53 t54 t55 t56 t57 t58 t59 t60 t61 t62 t63 t64 t65 t66 t67 t68 t69 t70 t71 t72 t73 t74 t75 t76 t77 t78 t79 t80 t81 t82 t83 t84 t85 t86 t87 t88 t89 t90 t91 t92 t93 t94 t95 t96 t97 t98 t99 t100 t101 t102 t103 t104 t105 t106 t107 t108 t109 : Value) (z : Int) (w2 : World), Below wr.heap.size wr w2 → (z = 13 ∧ X.has n = false ∨ z = 12 ∧ X.has n = true ∧ badR X.one n y cp = true) → K .ret ⟨#[s0, s1, .bool cp, s3, s4, s5, .pointer (some ⟨g6, 0, none⟩), .int .i64 z, .pointer (some ⟨g8, 0, none⟩), s9, s10, t11, t12, t13, s14, s15, s16, s17, s18, s19, s20, s21, s22, s23, s24, s25, s26, s27, s28, s29, s30, s31, s32, s33, s34, s35, s36, s37, s38, s39, s40, s41, s42, s43, s44, s45, s46, .slice (some ad) L c2, .int .i64 (L : Nat), .int .i64 (j : Nat), t50, t51, t52, t53, t54, t55, t56, t57, t58, t59, t60, t61, t62, t63, t64, t65, t66, t67, t68, t69, t70, t71, t72, t73, t74, t75, t76, t77, t78, t79, t80, t81, t82, t83, t84, t85, t86, t87, t88, t89, t90, t91, t92, t93, t94, t95, t96, t97, t98, t99, t100, t101, t102, t103, t104, t105, t106, t107, t108, t109, s110, s111, s112, s113, s114, s115, s116, s117, s118], []⟩ (w2.setRow g6 (crdA crd0)))
    (hKn : ∀ (t11 t12 t13 t50 t51 t52 t53 t54 t55 t56 t57 t58 t59 t60 t61 t62 t63 t64 t65 t66 t67 t68 t69 t70 t71 t72 t73 t74 t75 t76 t77 t78 t79 t80 t81 t82 t83 t84 t85 t86 t87 t88 t89 t90 t91 t92 t93 t94 t95 t96 t97 t98 t99 t100 t101 t102 t103 t104 t105 t106 t107 t108 t109 : Value) (w2 : World), Below wr.heap.size wr w2 → X.has n = true → badR X.one n y cp = false → K .normal ⟨#[s0, s1, .bool cp, s3, s4, s5, .pointer (some ⟨g6, 0, none⟩), s7, .pointer (some ⟨g8, 0, none⟩), s9, s10, t11, t12, t13, s14, s15, s16, s17, s18, s19, s20, s21, s22, s23, s24, s25, s26, s27, s28, s29, s30, s31, s32, s33, s34, s35, s36, s37, s38, s39, s40, s41, s42, s43, s44, s45, s46, .slice (some ad) L c2, .int .i64 (L : Nat), .int .i64 ((j : Int) + 1), t50, t51, t52, t53, t54, t55, t56, t57, t58, t59, t60, t61, t62, t63, t64, t65, t66, t67, t68, t69, t70, t71, t72, t73, t74, t75, t76, t77, t78, t79, t80, t81, t82, t83, t84, t85, t86, t87, t88, t89, t90, t91, t92, t93, t94, t95, t96, t97, t98, t99, t100, t101, t102, t103, t104, t105, t106, t107, t108, t109, s110, s111, s112, s113, s114, s115, s116, s117, s118], []⟩ w2) :
    Code.wp Try.prog (loopAt Try.f52 0) K ⟨#[s0, s1, .bool cp, s3, s4, s5, .pointer (some ⟨g6, 0, none⟩), s7, .pointer (some ⟨g8, 0, none⟩), s9, s10, s11, s12, s13, s14, s15, s16, s17, s18, s19, s20, s21, s22, s23, s24, s25, s26, s27, s28, s29, s30, s31, s32, s33, s34, s35, s36, s37, s38, s39, s40, s41, s42, s43, s44, s45, s46, .slice (some ad) L c2, .int .i64 (L : Nat), .int .i64 (j : Nat), s50, s51, s52, s53, s54, s55, s56, s57, s58, s59, s60, s61, s62, s63, s64, s65, s66, s67, s68, s69, s70, s71, s72, s73, s74, s75, s76, s77, s78, s79, s80, s81, s82, s83, s84, s85, s86, s87, s88, s89, s90, s91, s92, s93, s94, s95, s96, s97, s98, s99, s100, s101, s102, s103, s104, s105, s106, s107, s108, s109, s110, s111, s112, s113, s114, s115, s116, s117, s118], []⟩ wr := by
  conv => arg 2; whnf
  have hKr' := Lib.hid hKr
  have hKn' := Lib.hid hKn
  clear hKr hKn
  have hjl2 : (j : Int) < (L : Int) := by omega
  have hn19 : (n : Int) < 19 := by omega
  have hw1 : IntKind.i64.wrap ((j : Int) + 1) = (j : Int) + 1 := by rw [IntKind.wrap_i64]; omega
  have hbW := below_alloc' wr (.cells #[.int .i64 (n : Nat), .slice xA xb.length xc] 120)
  have hr2 := row_below hr hbW hr.lt
  have hX2 := hX.step hbW
  have hH2 := hX2.cellH (show n < 19 by omega)
  have hcz := crd_cells crd0
  have hbad : Hid (badR X.one n y cp = true) := by show _ = _; unfold badR; rw [if_pos (by omega)]
  have d1 : ((n : Int) == 1) = false := by rw [beq_eq_false_iff_ne]; omega
  have dn : ((n : Int) == 4) = true := by rw [beq_iff_eq]; omega
  clear hn
  have hhH := Lib.hid hh
  have hcv : ∀ W : World, Kp wr.heap.size wr W → (convert 59 9 (.slice xA xb.length xc)).run Try.prog W = .ok (.string ⟨xb.toArray⟩) W := fun W hW => conv_at _b1 hW
  rw [hh] at hH2
  clear hh _b1
  have hbL := hbW
  go_wp2
  refine hKr'.out _ _ _ _ _ _ _ _ _ _ _ _ _ _ _ _ _ _ _ _ _ _ _ _ _ _ _ _ _ _ _ _ _ _ _ _ _ _ _ _ _ _ _ _ _ _ _ _ _ _ _ _ _ _ _ _ _ _ _ _ _ _ _ _ _ ?_ ?_
  · exact hbL
  · exact .inr ⟨rfl, hhH.out, hbad.out⟩
set_option maxHeartbeats 8000000 in
theorem tu_k10 (K : Exit → Act → World → Prop) (cp : Bool) (X : Crd) (ad : Addr) (xA : Option Addr) (xb : List UInt8) (j L c2 xc n g6 g8 y : Nat) (s0 s1 s3 s4 s5 s7 s9 s10 s11 s12 s13 s14 s15 s16 s17 s18 s19 s20 s21 s22 s23 s24 s25 s26 s27 s28 s29 s30 s31 s32 s33 s34 s35 s36 s37 s38 s39 s40 s41 s42 s43 s44 s45 s46 s50 s51 s52 s53 s54 s55 s56 s57 s58 s59 s60 s61 s62 s63 s64 s65 s66 s67 s68 s69 s70 s71 s72 s73 s74 s75 s76 s77 s78 s79 s80 s81 s82 s83 s84 s85 s86 s87 s88 s89 s90 s91 s92 s93 s94 s95 s96 s97 s98 s99 s100 s101 s102 s103 s104 s105 s106 s107 s108 s109 s110 s111 s112 s113 s114 s115 s116 s117 s118 : Value) (wr : World) (hjl : j < L) (_hn1 : 1 ≤ n) (_hn18 : n ≤ 18) (hr : Row wr g6 38) (hX : CrdAt wr g8 X) (q1 : wr.cell? (ad.add (j * 2)) = some (.int .i64 (n : Nat))) (q2 : wr.cell? ⟨(ad.add (j * 2)).block, (ad.add (j * 2)).off + 1, none⟩ = some (.slice xA xb.length xc)) (_b1 : Rd wr wr.heap.size xA (bytesV xb)) (_hbl : ad.block < wr.heap.size) (_hg : g6 ≠ g8) (hLL : L ≤ 9223372036854775807) (hh : X.has n = true) (hn : n = 10)
    (hKr : ∀ (t11 t12 t13 t50 t51 t52 t53 t54 t55 t56 t57 t58 t59 t60 t61 t62 t63 t64 t65 t66 t67 t68 t69 t70 t71 t72 t73 t74 t75 t76 t77 t78 t79 t80 t81 t82 t83 t84 t85 t86 t87 t88 t89 t90 t91 t92 t93 t94 t95 t96 t97 t98 t99 t100 t101 t102 t103 t104 t105 t106 t107 t108 t109 : Value) (z : Int) (w2 : World), Below wr.heap.size wr w2 → (z = 13 ∧ X.has n = false ∨ z = 12 ∧ X.has n = true ∧ badR X.one n y cp = true) → K .ret ⟨#[s0, s1, .bool cp, s3, s4, s5, .pointer (some ⟨g6, 0, none⟩), .int .i64 z, .pointer (some ⟨g8, 0, none⟩), s9, s10, t11, t12, t13, s14, s15, s16, s17, s18, s19, s20, s21, s22, s23, s24, s25, s26, s27, s28, s29, s30, s31, s32, s33, s34, s35, s36, s37, s38, s39, s40, s41, s42, s43, s44, s45, s46, .slice (some ad) L c2, .int .i64 (L : Nat), .int .i64 (j : Nat), t50, t51, t52, t53, t54, t55, t56, t57, t58, t59, t60, t61, t62, t63, t64, t65, t66, t67, t68, t69, t70, t71, t72, t73, t74, t75, t76, t77, t78, t79, t80, t81, t82, t83, t84, t85, t86, t87, t88, t89, t90, t91, t92, t93, t94, t95, t96, t97, t98, t99, t100, t101, t102, t103, t104, t105, t106, t107, t108, t109, s110, s111, s112, s113, s114, s115, s116, s117, s118], []⟩ (w2.setRow g6 (crdA crd0)))
    (hKn : ∀ (t11 t12 t13 t50 t51 t52 t53 t54 t55 t56 t57 t58 t59 t60 t61 t62 t63 t64 t65 t66 t67 t68 t69 t70 t71 t72 t73 t74 t75 t76 t77 t78 t79 t80 t81 t82 t83 t84 t85 t86 t87 t88 t89 t90 t91 t92 t93 t94 t95 t96 t97 t98 t99 t100 t101 t102 t103 t104 t105 t106 t107 t108 t109 : Value) (w2 : World), Below wr.heap.size wr w2 → X.has n = true → badR X.one n y cp = false → K .normal ⟨#[s0, s1, .bool cp, s3, s4, s5, .pointer (some ⟨g6, 0, none⟩), s7, .pointer (some ⟨g8, 0, none⟩), s9, s10, t11, t12, t13, s14, s15, s16, s17, s18, s19, s20, s21, s22, s23, s24, s25, s26, s27, s28, s29, s30, s31, s32, s33, s34, s35, s36, s37, s38, s39, s40, s41, s42, s43, s44, s45, s46, .slice (some ad) L c2, .int .i64 (L : Nat), .int .i64 ((j : Int) + 1), t50, t51, t52, t53, t54, t55, t56, t57, t58, t59, t60, t61, t62, t63, t64, t65, t66, t67, t68, t69, t70, t71, t72, t73, t74, t75, t76, t77, t78, t79, t80, t81, t82, t83, t84, t85, t86, t87, t88, t89, t90, t91, t92, t93, t94, t95, t96, t97, t98, t99, t100, t101, t102, t103, t104, t105, t106, t107, t108, t109, s110, s111, s112, s113, s114, s115, s116, s117, s118], []⟩ w2) :
    Code.wp Try.prog (loopAt Try.f52 0) K ⟨#[s0, s1, .bool cp, s3, s4, s5, .pointer (some ⟨g6, 0, none⟩), s7, .pointer (some ⟨g8, 0, none⟩), s9, s10, s11, s12, s13, s14, s15, s16, s17, s18, s19, s20, s21, s22, s23, s24, s25, s26, s27, s28, s29, s30, s31, s32, s33, s34, s35, s36, s37, s38, s39, s40, s41, s42, s43, s44, s45, s46, .slice (some ad) L c2, .int .i64 (L : Nat), .int .i64 (j : Nat), s50, s51, s52, s53, s54, s55, s56, s57, s58, s59, s60, s61, s62, s63, s64, s65, s66, s67, s68, s69, s70, s71, s72, s73, s74, s75, s76, s77, s78, s79, s80, s81, s82, s83, s84, s85, s86, s87, s88, s89, s90, s91, s92, s93, s94, s95, s96, s97, s98, s99, s100, s101, s102, s103, s104, s105, s106, s107, s108, s109, s110, s111, s112, s113, s114, s115, s116, s117, s118], []⟩ wr := by
  conv => arg 2; whnf
  have hKr' := Lib.hid hKr
  have hKn' := Lib.hid hKn
  clear hKr hKn
  have hjl2 : (j : Int) < (L : Int) := by omega
  have hn19 : (n : Int) < 19 := by omega
  have hw1 : IntKind.i64.wrap ((j : Int) + 1) = (j : Int) + 1 := by rw [IntKind.wrap_i64]; omega
  have hbW := below_alloc' wr (.cells #[.int .i64 (n : Nat), .slice xA xb.length xc] 120)
  have hr2 := row_below hr hbW hr.lt
  have hX2 := hX.step hbW
  have hH2 := hX2.cellH (show n < 19 by omega)
  have hcz := crd_cells crd0
  have hbad : Hid (badR X.one n y cp = true) := by show _ = _; unfold badR; rw [if_pos (by omega)]
  have d1 : ((n : Int) == 1) = false := by rw [beq_eq_false_iff_ne]; omega
  have d4 : ((n : Int) == 4) = false := by rw [beq_eq_false_iff_ne]; omega
  have dn : ((n : Int) == 10) = true := by rw [beq_iff_eq]; omega
  clear hn
  have hhH := Lib.hid hh
  have hcv : ∀ W : World, Kp wr.heap.size wr W → (convert 59 9 (.slice xA xb.length xc)).run Try.prog W = .ok (.string ⟨xb.toArray⟩) W := fun W hW => conv_at _b1 hW
  rw [hh] at hH2
  clear hh _b1
  have hbL := hbW
  go_wp2
  refine hKr'.out _ _ _ _ _ _ _ _ _ _ _ _ _ _ _ _ _ _ _ _ _ _ _ _ _ _ _ _ _ _ _ _ _ _ _ _ _ _ _ _ _ _ _ _ _ _ _ _ _ _ _ _ _ _ _ _ _ _ _ _ _ _ _ _ _ ?_ ?_
  · exact hbL
  · exact .inr ⟨rfl, hhH.out, hbad.out⟩
set_option maxHeartbeats 8000000 in
theorem tu_k11 (K : Exit → Act → World → Prop) (cp : Bool) (X : Crd) (ad : Addr) (xA : Option Addr) (xb : List UInt8) (j L c2 xc n g6 g8 y : Nat) (s0 s1 s3 s4 s5 s7 s9 s10 s11 s12 s13 s14 s15 s16 s17 s18 s19 s20 s21 s22 s23 s24 s25 s26 s27 s28 s29 s30 s31 s32 s33 s34 s35 s36 s37 s38 s39 s40 s41 s42 s43 s44 s45 s46 s50 s51 s52 s53 s54 s55 s56 s57 s58 s59 s60 s61 s62 s63 s64 s65 s66 s67 s68 s69 s70 s71 s72 s73 s74 s75 s76 s77 s78 s79 s80 s81 s82 s83 s84 s85 s86 s87 s88 s89 s90 s91 s92 s93 s94 s95 s96 s97 s98 s99 s100 s101 s102 s103 s104 s105 s106 s107 s108 s109 s110 s111 s112 s113 s114 s115 s116 s117 s118 : Value) (wr : World) (hjl : j < L) (_hn1 : 1 ≤ n) (_hn18 : n ≤ 18) (hr : Row wr g6 38) (hX : CrdAt wr g8 X) (q1 : wr.cell? (ad.add (j * 2)) = some (.int .i64 (n : Nat))) (q2 : wr.cell? ⟨(ad.add (j * 2)).block, (ad.add (j * 2)).off + 1, none⟩ = some (.slice xA xb.length xc)) (_b1 : Rd wr wr.heap.size xA (bytesV xb)) (_hbl : ad.block < wr.heap.size) (_hg : g6 ≠ g8) (hLL : L ≤ 9223372036854775807) (hh : X.has n = true) (hn : n = 11)
    (hKr : ∀ (t11 t12 t13 t50 t51 t52 t53 t54 t55 t56 t57 t58 t59 t60 t61 t62 t63 t64 t65 t66 t67 t68 t69 t70 t71 t72 t73 t74 t75 t76 t77 t78 t79 t80 t81 t82 t83 t84 t85 t86 t87 t88 t89 t90 t91 t92 t93 t94 t95 t96 t97 t98 t99 t100 t101 t102 t103 t104 t105 t106 t107 t108 t109 : Value) (z : Int) (w2 : World), Below wr.heap.size wr w2 → (z = 13 ∧ X.has n = false ∨ z = 12 ∧ X.has n = true ∧ badR X.one n y cp = true) → K .ret ⟨#[s0, s1, .bool cp, s3, s4, s5, .pointer (some ⟨g6, 0, none⟩), .int .i64 z, .pointer (some ⟨g8, 0, none⟩), s9, s10, t11, t12, t13, s14, s15, s16, s17, s18, s19, s20, s21, s22, s23, s24, s25, s26, s27, s28, s29, s30, s31, s32, s33, s34, s35, s36, s37, s38, s39, s40, s41, s42, s43, s44, s45, s46, .slice (some ad) L c2, .int .i64 (L : Nat), .int .i64 (j : Nat), t50, t51, t52, t53, t54, t55, t56, t57, t58, t59, t60, t61, t62, t63, t64, t65, t66, t67, t68, t69, t70, t71, t72, t73, t74, t75, t76, t77, t78, t79, t80, t81, t82, t83, t84, t85, t86, t87, t88, t89, t90, t91, t92, t93, t94, t95, t96, t97, t98, t99, t100, t101, t102, t103, t104, t105, t106, t107, t108, t109, s110, s111, s112, s113, s114, s115, s116, s117, s118], []⟩ (w2.setRow g6 (crdA crd0)))
    (hKn : ∀ (t11 t12 t13 t50 t51 t52 t53 t54 t55 t56 t57 t58 t59 t60 t61 t62 t63 t64 t65 t66 t67 t68 t69 t70 t71 t72 t73 t74 t75 t76 t77 t78 t79 t80 t81 t82 t83 t84 t85 t86 t87 t88 t89 t90 t91 t92 t93 t94 t95 t96 t97 t98 t99 t100 t101 t102 t103 t104 t105 t106 t107 t108 t109 : Value) (w2 : World), Below wr.heap.size wr w2 → X.has n = true → badR X.one n y cp = false → K .normal ⟨#[s0, s1, .bool cp, s3, s4, s5, .pointer (some ⟨g6, 0, none⟩), s7, .pointer (some ⟨g8, 0, none⟩), s9, s10, t11, t12, t13, s14, s15, s16, s17, s18, s19, s20, s21, s22, s23, s24, s25, s26, s27, s28, s29, s30, s31, s32, s33, s34, s35, s36, s37, s38, s39, s40, s41, s42, s43, s44, s45, s46, .slice (some ad) L c2, .int .i64 (L : Nat), .int .i64 ((j : Int) + 1), t50, t51, t52, t53, t54, t55, t56, t57, t58, t59, t60, t61, t62, t63, t64, t65, t66, t67, t68, t69, t70, t71, t72, t73, t74, t75, t76, t77, t78, t79, t80, t81, t82, t83, t84, t85, t86, t87, t88, t89, t90, t91, t92, t93, t94, t95, t96, t97, t98, t99, t100, t101, t102, t103, t104, t105, t106, t107, t108, t109, s110, s111, s112, s113, s114, s115, s116, s117, s118], []⟩ w2) :
    Code.wp Try.prog (loopAt Try.f52 0) K ⟨#[s0, s1, .bool cp, s3, s4, s5, .pointer (some ⟨g6, 0, none⟩), s7, .pointer (some ⟨g8, 0, none⟩), s9, s10, s11, s12, s13, s14, s15, s16, s17, s18, s19, s20, s21, s22, s23, s24, s25, s26, s27, s28, s29, s30, s31, s32, s33, s34, s35, s36, s37, s38, s39, s40, s41, s42, s43, s44, s45, s46, .slice (some ad) L c2, .int .i64 (L : Nat), .int .i64 (j : Nat), s50, s51, s52, s53, s54, s55, s56, s57, s58, s59, s60, s61, s62, s63, s64, s65, s66, s67, s68, s69, s70, s71, s72, s73, s74, s75, s76, s77, s78, s79, s80, s81, s82, s83, s84, s85, s86, s87, s88, s89, s90, s91, s92, s93, s94, s95, s96, s97, s98, s99, s100, s101, s102, s103, s104, s105, s106, s107, s108, s109, s110, s111, s112, s113, s114, s115, s116, s117, s118], []⟩ wr := by
  conv => arg 2; whnf
  have hKr' := Lib.hid hKr
  have hKn' := Lib.hid hKn
  clear hKr hKn
  have hjl2 : (j : Int) < (L : Int) := by omega
  have hn19 : (n : Int) < 19 := by omega
  have hw1 : IntKind.i64.wrap ((j : Int) + 1) = (j : Int) + 1 := by rw [IntKind.wrap_i64]; omega
  have hbW := below_alloc' wr (.cells #[.int .i64 (n : Nat), .slice xA xb.length xc] 120)
  have hr2 := row_below hr hbW hr.lt
  have hX2 := hX.step hbW
  have hH2 := hX2.cellH (show n < 19 by omega)
  have hcz := crd_cells crd0
  have hbad : Hid (badR X.one n y cp = true) := by show _ = _; unfold badR; rw [if_pos (by omega)]
  have d1 : ((n : Int) == 1) = false := by rw [beq_eq_false_iff_ne]; omega
  have d4 : ((n : Int) == 4) = false := by rw [beq_eq_false_iff_ne]; omega
  have d10 : ((n : Int) == 10) = false := by rw [beq_eq_false_iff_ne]; omega
  have dn : ((n : Int) == 11) = true := by rw [beq_iff_eq]; omega
  clear hn
  have hhH := Lib.hid hh
  have hcv : ∀ W : World, Kp wr.heap.size wr W → (convert 59 9 (.slice xA xb.length xc)).run Try.prog W = .ok (.string ⟨xb.toArray⟩) W := fun W hW => conv_at _b1 hW
  rw [hh] at hH2
  clear hh _b1
  have hbL := hbW
  go_wp2
  refine hKr'.out _ _ _ _ _ _ _ _ _ _ _ _ _ _ _ _ _ _ _ _ _ _ _ _ _ _ _ _ _ _ _ _ _ _ _ _ _ _ _ _ _ _ _ _ _ _ _ _ _ _ _ _ _ _ _ _ _ _ _ _ _ _ _ _ _ ?_ ?_
  · exact hbL
  · exact .inr ⟨rfl, hhH.out, hbad.out⟩
set_option maxHeartbeats 8000000 in
theorem tu_k12 (K : Exit → Act → World → Prop) (cp : Bool) (X : Crd) (ad : Addr) (xA : Option Addr) (xb : List UInt8) (j L c2 xc n g6 g8 y : Nat) (s0 s1 s3 s4 s5 s7 s9 s10 s11 s12 s13 s14 s15 s16 s17 s18 s19 s20 s21 s22 s23 s24 s25 s26 s27 s28 s29 s30 s31 s32 s33 s34 s35 s36 s37 s38 s39 s40 s41 s42 s43 s44 s45 s46 s50 s51 s52 s53 s54 s55 s56 s57 s58 s59 s60 s61 s62 s63 s64 s65 s66 s67 s68 s69 s70 s71 s72 s73 s74 s75 s76 s77 s78 s79 s80 s81 s82 s83 s84 s85 s86 s87 s88 s89 s90 s91 s92 s93 s94 s95 s96 s97 s98 s99 s100 s101 s102 s103 s104 s105 s106 s107 s108 s109 s110 s111 s112 s113 s114 s115 s116 s117 s118 : Value) (wr : World) (hjl : j < L) (_hn1 : 1 ≤ n) (_hn18 : n ≤ 18) (hr : Row wr g6 38) (hX : CrdAt wr g8 X) (q1 : wr.cell? (ad.add (j * 2)) = some (.int .i64 (n : Nat))) (q2 : wr.cell? ⟨(ad.add (j * 2)).block, (ad.add (j * 2)).off + 1, none⟩ = some (.slice xA xb.length xc)) (_b1 : Rd wr wr.heap.size xA (bytesV xb)) (_hbl : ad.block < wr.heap.size) (_hg : g6 ≠ g8) (hLL : L ≤ 9223372036854775807) (hh : X.has n = true) (hn : n = 12)
    (hKr : ∀ (t11 t12 t13 t50 t51 t52 t53 t54 t55 t56 t57 t58 t59 t60 t61 t62 t63 t64 t65 t66 t67 t68 t69 t70 t71 t72 t73 t74 t75 t76 t77 t78 t79 t80 t81 t82 t83 t84 t85 t86 t87 t88 t89 t90 t91 t92 t93 t94 t95 t96 t97 t98 t99 t100 t101 t102 t103 t104 t105 t106 t107 t108 t109 : Value) (z : Int) (w2 : World), Below wr.heap.size wr w2 → (z = 13 ∧ X.has n = false ∨ z = 12 ∧ X.has n = true ∧ badR X.one n y cp = true) → K .ret ⟨#[s0, s1, .bool cp, s3, s4, s5, .pointer (some ⟨g6, 0, none⟩), .int .i64 z, .pointer (some ⟨g8, 0, none⟩), s9, s10, t11, t12, t13, s14, s15, s16, s17, s18, s19, s20, s21, s22, s23, s24, s25, s26, s27, s28, s29, s30, s31, s32, s33, s34, s35, s36, s37, s38, s39, s40, s41, s42, s43, s44, s45, s46, .slice (some ad) L c2, .int .i64 (L : Nat), .int .i64 (j : Nat), t50, t51, t52, t53, t54, t55, t56, t57, t58, t59, t60, t61, t62, t63, t64, t65, t66, t67, t68, t69, t70, t71, t72, t73, t74, t75, t76, t77, t78, t79, t80, t81, t82, t83, t84, t85, t86, t87, t88, t89, t90, t91, t92, t93, t94, t95, t96, t97, t98, t99, t100, t101, t102, t103, t104, t105, t106, t107, t108, t109, s110, s111, s112, s113, s114, s115, s116, s117, s118], []⟩ (w2.setRow g6 (crdA crd0)))
    (hKn : ∀ (t11 t12 t13 t50 t51 t52 t53 t54 t55 t56 t57 t58 t59 t60 t61 t62 t63 t64 t65 t66 t67 t68 t69 t70 t71 t72 t73 t74 t75 t76 t77 t78 t79 t80 t81 t82 t83 t84 t85 t86 t87 t88 t89 t90 t91 t92 t93 t94 t95 t96 t97 t98 t99 t100 t101 t102 t103 t104 t105 t106 t107 t108 t109 : Value) (w2 : World), Below wr.heap.size wr w2 → X.has n = true → badR X.one n y cp = false → K .normal ⟨#[s0, s1, .bool cp, s3, s4, s5, .pointer (some ⟨g6, 0, none⟩), s7, .pointer (some ⟨g8, 0, none⟩), s9, s10, t11, t12, t13, s14, s15, s16, s17, s18, s19, s20, s21, s22, s23, s24, s25, s26, s27, s28, s29, s30, s31, s32, s33, s34, s35, s36, s37, s38, s39, s40, s41, s42, s43, s44, s45, s46, .slice (some ad) L c2, .int .i64 (L : Nat), .int .i64 ((j : Int) + 1), t50, t51, t52, t53, t54, t55, t56, t57, t58, t59, t60, t61, t62, t63, t64, t65, t66, t67, t68, t69, t70, t71, t72, t73, t74, t75, t76, t77, t78, t79, t80, t81, t82, t83, t84, t85, t86, t87, t88, t89, t90, t91, t92, t93, t94, t95, t96, t97, t98, t99, t100, t101, t102, t103, t104, t105, t106, t107, t108, t109, s110, s111, s112, s113, s114, s115, s116, s117, s118], []⟩ w2) :
    Code.wp Try.prog (loopAt Try.f52 0) K ⟨#[s0, s1, .bool cp, s3, s4, s5, .pointer (some ⟨g6, 0, none⟩), s7, .pointer (some ⟨g8, 0, none⟩), s9, s10, s11, s12, s13, s14, s15, s16, s17, s18, s19, s20, s21, s22, s23, s24, s25, s26, s27, s28, s29, s30, s31, s32, s33, s34, s35, s36, s37, s38, s39, s40, s41, s42, s43, s44, s45, s46, .slice (some ad) L c2, .int .i64 (L : Nat), .int .i64 (j : Nat), s50, s51, s52, s53, s54, s55, s56, s57, s58, s59, s60, s61, s62, s63, s64, s65, s66, s67, s68, s69, s70, s71, s72, s73, s74, s75, s76, s77, s78, s79, s80, s81, s82, s83, s84, s85, s86, s87, s88, s89, s90, s91, s92, s93, s94, s95, s96, s97, s98, s99, s100, s101, s102, s103, s104, s105, s106, s107, s108, s109, s110, s111, s112, s113, s114, s115, s116, s117, s118], []⟩ wr := by
  conv => arg 2; whnf
  have hKr' := Lib.hid hKr
  have hKn' := Lib.hid hKn
  clear hKr hKn
  have hjl2 : (j : Int) < (L : Int) := by omega
  have hn19 : (n : Int) < 19 := by omega
  have hw1 : IntKind.i64.wrap ((j : Int) + 1) = (j : Int) + 1 := by rw [IntKind.wrap_i64]; omega
  have hbW := below_alloc' wr (.cells #[.int .i64 (n : Nat), .slice xA xb.length xc] 120)
  have hr2 := row_below hr hbW hr.lt
  have hX2 := hX.step hbW
  have hH2 := hX2.cellH (show n < 19 by omega)
  have hcz := crd_cells crd0
  have hbad : Hid (badR X.one n y cp = true) := by show _ = _; unfold badR; rw [if_pos (by omega)]
  have d1 : ((n : Int) == 1) = false := by rw [beq_eq_false_iff_ne]; omega
  have d4 : ((n : Int) == 4) = false := by rw [beq_eq_false_iff_ne]; omega
  have d10 : ((n : Int) == 10) = false := by rw [beq_eq_false_iff_ne]; omega
  have d11 : ((n : Int) == 11) = false := by rw [beq_eq_false_iff_ne]; omega
  have dn : ((n : Int) == 12) = true := by rw [beq_iff_eq]; omega
  clear hn
  have hhH := Lib.hid hh
  have hcv : ∀ W : World, Kp wr.heap.size wr W → (convert 59 9 (.slice xA xb.length xc)).run Try.prog W = .ok (.string ⟨xb.toArray⟩) W := fun W hW => conv_at _b1 hW
  rw [hh] at hH2
  clear hh _b1
  have hbL := hbW
  go_wp2
  refine hKr'.out _ _ _ _ _ _ _ _ _ _ _ _ _ _ _ _ _ _ _ _ _ _ _ _ _ _ _ _ _ _ _ _ _ _ _ _ _ _ _ _ _ _ _ _ _ _ _ _ _ _ _ _ _ _ _ _ _ _ _ _ _ _ _ _ _ ?_ ?_
  · exact hbL
  · exact .inr ⟨rfl, hhH.out, hbad.out⟩
set_option maxHeartbeats 8000000 in
theorem tu_k5t (K : Exit → Act → World → Prop) (cp : Bool) (X : Crd) (ad : Addr) (xA : Option Addr) (xb : List UInt8) (j L c2 xc n g6 g8 y : Nat) (s0 s1 s3 s4 s5 s7 s9 s10 s11 s12 s13 s14 s15 s16 s17 s18 s19 s20 s21 s22 s23 s24 s25 s26 s27 s28 s29 s30 s31 s32 s33 s34 s35 s36 s37 s38 s39 s40 s41 s42 s43 s44 s45 s46 s50 s51 s52 s53 s54 s55 s56 s57 s58 s59 s60 s61 s62 s63 s64 s65 s66 s67 s68 s69 s70 s71 s72 s73 s74 s75 s76 s77 s78 s79 s80 s81 s82 s83 s84 s85 s86 s87 s88 s89 s90 s91 s92 s93 s94 s95 s96 s97 s98 s99 s100 s101 s102 s103 s104 s105 s106 s107 s108 s109 s110 s111 s112 s113 s114 s115 s116 s117 s118 : Value) (wr : World) (hjl : j < L) (_hn1 : 1 ≤ n) (_hn18 : n ≤ 18) (hr : Row wr g6 38) (hX : CrdAt wr g8 X) (q1 : wr.cell? (ad.add (j * 2)) = some (.int .i64 (n : Nat))) (q2 : wr.cell? ⟨(ad.add (j * 2)).block, (ad.add (j * 2)).off + 1, none⟩ = some (.slice xA xb.length xc)) (_b1 : Rd wr wr.heap.size xA (bytesV xb)) (_hbl : ad.block < wr.heap.size) (_hg : g6 ≠ g8) (hLL : L ≤ 9223372036854775807) (hh : X.has n = true) (hn : n = 5) (hc : cp = true)
    (hKr : ∀ (t11 t12 t13 t50 t51 t52 t53 t54 t55 t56 t57 t58 t59 t60 t61 t62 t63 t64 t65 t66 t67 t68 t69 t70 t71 t72 t73 t74 t75 t76 t77 t78 t79 t80 t81 t82 t83 t84 t85 t86 t87 t88 t89 t90 t91 t92 t93 t94 t95 t96 t97 t98 t99 t100 t101 t102 t103 t104 t105 t106 t107 t108 t109 : Value) (z : Int) (w2 : World), Below wr.heap.size wr w2 → (z = 13 ∧ X.has n = false ∨ z = 12 ∧ X.has n = true ∧ badR X.one n y cp = true) → K .ret ⟨#[s0, s1, .bool cp, s3, s4, s5, .pointer (some ⟨g6, 0, none⟩), .int .i64 z, .pointer (some ⟨g8, 0, none⟩), s9, s10, t11, t12, t13, s14, s15, s16, s17, s18, s19, s20, s21, s22, s23, s24, s25, s26, s27, s28, s29, s30, s31, s32, s33, s34, s35, s36, s37, s38, s39, s40, s41, s42, s43, s44, s45, s46, .slice (some ad) L c2, .int .i64 (L : Nat), .int .i64 (j : Nat), t50, t51, t52, t53, t54, t55, t56, t57, t58, t59, t60, t61, t62, t63, t64, t65, t66, t67, t68, t69, t70, t71, t72, t73, t74, t75, t76, t77, t78, t79, t80, t81, t82, t83, t84, t85, t86, t87, t88, t89, t90, t91, t92, t93, t94, t95, t96, t97, t98, t99, t100, t101, t102, t103, t104, t105, t106, t107, t108, t109, s110, s111, s112, s113, s114, s115, s116, s117, s118], []⟩ (w2.setRow g6 (crdA crd0)))
    (hKn : ∀ (t11 t12 t13 t50 t51 t52 t53 t54 t55 t56 t57 t58 t59 t60 t61 t62 t63 t64 t65 t66 t67 t68 t69 t70 t71 t72 t73 t74 t75 t76 t77 t78 t79 t80 t81 t82 t83 t84 t85 t86 t87 t88 t89 t90 t91 t92 t93 t94 t95 t96 t97 t98 t99 t100 t101 t102 t103 t104 t105 t106 t107 t108 t109 : Value) (w2 : World), Below wr.heap.size wr w2 → X.has n = true → badR X.one n y cp = false → K .normal ⟨#[s0, s1, .bool cp, s3, s4, s5, .pointer (some ⟨g6, 0, none⟩), s7, .pointer (some ⟨g8, 0, none⟩), s9, s10, t11, t12, t13, s14, s15, s16, s17, s18, s19, s20, s21, s22, s23, s24, s25, s26, s27, s28, s29, s30, s31, s32, s33, s34, s35, s36, s37, s38, s39, s40, s41, s42, s43, s44, s45, s46, .slice (some ad) L c2, .int .i64 (L : Nat), .int .i64 ((j : Int) + 1), t50, t51, t52, t53, t54, t55, t56, t57, t58, t59, t60, t61, t62, t63, t64, t65, t66, t67, t68, t69, t70, t71, t72, t73, t74, t75, t76, t77, t78, t79, t80, t81, t82, t83, t84, t85, t86, t87, t88, t89, t90, t91, t92, t93, t94, t95, t96, t97, t98, t99, t100, t101, t102, t103, t104, t105, t106, t107, t108, t109, s110, s111, s112, s113, s114, s115, s116, s117, s118], []⟩ w2) :
    Code.wp Try.prog (loopAt Try.f52 0) K ⟨#[s0, s1, .bool cp, s3, s4, s5, .pointer (some ⟨g6, 0, none⟩), s7, .pointer (some ⟨g8, 0, none⟩), s9, s10, s11, s12, s13, s14, s15, s16, s17, s18, s19, s20, s21, s22, s23, s24, s25, s26, s27, s28, s29, s30, s31, s32, s33, s34, s35, s36, s37, s38, s39, s40, s41, s42, s43, s44, s45, s46, .slice (some ad) L c2, .int .i64 (L : Nat), .int .i64 (j : Nat), s50, s51, s52, s53, s54, s55, s56, s57, s58, s59, s60, s61, s62, s63, s64, s65, s66, s67, s68, s69, s70, s71, s72, s73, s74, s75, s76, s77, s78, s79, s80, s81, s82, s83, s84, s85, s86, s87, s88, s89, s90, s91, s92, s93, s94, s95, s96, s97, s98, s99, s100, s101, s102, s103, s104, s105, s106, s107, s108, s109, s110, s111, s112, s113, s114, s115, s116, s117, s118], []⟩ wr := by
  conv => arg 2; whnf
  have hKr' := Lib.hid hKr
  have hKn' := Lib.hid hKn
  clear hKr hKn
  have hjl2 : (j : Int) < (L : Int) := by omega
  have hn19 : (n : Int) < 19 := by omega
  have hw1 : IntKind.i64.wrap ((j : Int) + 1) = (j : Int) + 1 := by rw [IntKind.wrap_i64]; omega
  have hbW := below_alloc' wr (.cells #[.int .i64 (n : Nat), .slice xA xb.length xc] 120)
  have hr2 := row_below hr hbW hr.lt
  have hX2 := hX.step hbW
  have hH2 := hX2.cellH (show n < 19 by omega)
  have hcz := crd_cells crd0
  subst hc
  have hbad : Hid (badR X.one n y true = false) := by show _ = _; unfold badR; rw [if_neg (by omega), if_pos hn]; rfl
  have d1 : ((n : Int) == 1) = false := by rw [beq_eq_false_iff_ne]; omega
  have d4 : ((n : Int) == 4) = false := by rw [beq_eq_false_iff_ne]; omega
  have d10 : ((n : Int) == 10) = false := by rw [beq_eq_false_iff_ne]; omega
  have d11 : ((n : Int) == 11) = false := by rw [beq_eq_false_iff_ne]; omega
  have d12 : ((n : Int) == 12) = false := by rw [beq_eq_false_iff_ne]; omega
  have dn : ((n : Int) == 5) = true := by rw [beq_iff_eq]; omega
  clear hn
  have hhH := Lib.hid hh
  have hcv : ∀ W : World, Kp wr.heap.size wr W → (convert 59 9 (.slice xA xb.length xc)).run Try.prog W = .ok (.string ⟨xb.toArray⟩) W := fun W hW => conv_at _b1 hW
  rw [hh] at hH2
  clear hh _b1
  have hbL := hbW
  go_wp2
  refine hKn'.out _ _ _ _ _ _ _ _ _ _ _ _ _ _ _ _ _ _ _ _ _ _ _ _ _ _ _ _ _ _ _ _ _ _ _ _ _ _ _ _ _ _ _ _ _ _ _ _ _ _ _ _ _ _ _ _ _ _ _ _ _ _ _ _ ?_ hhH.out hbad.out
  exact hbL
set_option maxHeartbeats 8000000 in
theorem tu_k5f (K : Exit → Act → World → Prop) (cp : Bool) (X : Crd) (ad : Addr) (xA : Option Addr) (xb : List UInt8) (j L c2 xc n g6 g8 y : Nat) (s0 s1 s3 s4 s5 s7 s9 s10 s11 s12 s13 s14 s15 s16 s17 s18 s19 s20 s21 s22 s23 s24 s25 s26 s27 s28 s29 s30 s31 s32 s33 s34 s35 s36 s37 s38 s39 s40 s41 s42 s43 s44 s45 s46 s50 s51 s52 s53 s54 s55 s56 s57 s58 s59 s60 s61 s62 s63 s64 s65 s66 s67 s68 s69 s70 s71 s72 s73 s74 s75 s76 s77 s78 s79 s80 s81 s82 s83 s84 s85 s86 s87 s88 s89 s90 s91 s92 s93 s94 s95 s96 s97 s98 s99 s100 s101 s102 s103 s104 s105 s106 s107 s108 s109 s110 s111 s112 s113 s114 s115 s116 s117 s118 : Value) (wr : World) (hjl : j < L) (_hn1 : 1 ≤ n) (_hn18 : n ≤ 18) (hr : Row wr g6 38) (hX : CrdAt wr g8 X) (q1 : wr.cell? (ad.add (j * 2)) = some (.int .i64 (n : Nat))) (q2 : wr.cell? ⟨(ad.add (j * 2)).block, (ad.add (j * 2)).off + 1, none⟩ = some (.slice xA xb.length xc)) (_b1 : Rd wr wr.heap.size xA (bytesV xb)) (_hbl : ad.block < wr.heap.size) (_hg : g6 ≠ g8) (hLL : L ≤ 9223372036854775807) (hh : X.has n = true) (hn : n = 5) (hc : cp = false)
    (hKr : ∀ (t11 t12 t13 t50 t51 t52 t53 t54 t55 t56 t57 t58 t59 t60 t61 t62 t63 t64 t65 t66 t67 t68 t69 t70 t71 t72 t73 t74 t75 t76 t77 t78 t79 t80 t81 t82 t83 t84 t85 t86 t87 t88 t89 t90 t91 t92 t93 t94 t95 t96 t97 t98 t99 t100 t101 t102 t103 t104 t105 t106 t107 t108 t109 : Value) (z : Int) (w2 : World), Below wr.heap.size wr w2 → (z = 13 ∧ X.has n = false ∨ z = 12 ∧ X.has n = true ∧ badR X.one n y cp = true) → K .ret ⟨#[s0, s1, .bool cp, s3, s4, s5, .pointer (some ⟨g6, 0, none⟩), .int .i64 z, .pointer (some ⟨g8, 0, none⟩), s9, s10, t11, t12, t13, s14, s15, s16, s17, s18, s19, s20, s21, s22, s23, s24, s25, s26, s27, s28, s29, s30, s31, s32, s33, s34, s35, s36, s37, s38, s39, s40, s41, s42, s43, s44, s45, s46, .slice (some ad) L c2, .int .i64 (L : Nat), .int .i64 (j : Nat), t50, t51, t52, t53, t54, t55, t56, t57, t58, t59, t60, t61, t62, t63, t64, t65, t66, t67, t68, t69, t70, t71, t72, t73, t74, t75, t76, t77, t78, t79, t80, t81, t82, t83, t84, t85, t86, t87, t88, t89, t90, t91, t92, t93, t94, t95, t96, t97, t98, t99, t100, t101, t102, t103, t104, t105, t106, t107, t108, t109, s110, s111, s112, s113, s114, s115, s116, s117, s118], []⟩ (w2.setRow g6 (crdA crd0)))
    (hKn : ∀ (t11 t12 t13 t50 t51 t52 t53 t54 t55 t56 t57 t58 t59 t60 t61 t62 t63 t64 t65 t66 t67 t68 t69 t70 t71 t72 t73 t74 t75 t76 t77 t78 t79 t80 t81 t82 t83 t84 t85 t86 t87 t88 t89 t90 t91 t92 t93 t94 t95 t96 t97 t98 t99 t100 t101 t102 t103 t104 t105 t106 t107 t108 t109 : Value) (w2 : World), Below wr.heap.size wr w2 → X.has n = true → badR X.one n y cp = false → K .normal ⟨#[s0, s1, .bool cp, s3, s4, s5, .pointer (some ⟨g6, 0, none⟩), s7, .pointer (some ⟨g8, 0, none⟩), s9, s10, t11, t12, t13, s14, s15, s16, s17, s18, s19, s20, s21, s22, s23, s24, s25, s26, s27, s28, s29, s30, s31, s32, s33, s34, s35, s36, s37, s38, s39, s40, s41, s42, s43, s44, s45, s46, .slice (some ad) L c2, .int .i64 (L : Nat), .int .i64 ((j : Int) + 1), t50, t51, t52, t53, t54, t55, t56, t57, t58, t59, t60, t61, t62, t63, t64, t65, t66, t67, t68, t69, t70, t71, t72, t73, t74, t75, t76, t77, t78, t79, t80, t81, t82, t83, t84, t85, t86, t87, t88, t89, t90, t91, t92, t93, t94, t95, t96, t97, t98, t99, t100, t101, t102, t103, t104, t105, t106, t107, t108, t109, s110, s111, s112, s113, s114, s115, s116, s117, s118], []⟩ w2) :
    Code.wp Try.prog (loopAt Try.f52 0) K ⟨#[s0, s1, .bool cp, s3, s4, s5, .pointer (some ⟨g6, 0, none⟩), s7, .pointer (some ⟨g8, 0, none⟩), s9, s10, s11, s12, s13, s14, s15, s16, s17, s18, s19, s20, s21, s22, s23, s24, s25, s26, s27, s28, s29, s30, s31, s32, s33, s34, s35, s36, s37, s38, s39, s40, s41, s42, s43, s44, s45, s46, .slice (some ad) L c2, .int .i64 (L : Nat), .int .i64 (j : Nat), s50, s51, s52, s53, s54, s55, s56, s57, s58, s59, s60, s61, s62, s63, s64, s65, s66, s67, s68, s69, s70, s71, s72, s73, s74, s75, s76, s77, s78, s79, s80, s81, s82, s83, s84, s85, s86, s87, s88, s89, s90, s91, s92, s93, s94, s95, s96, s97, s98, s99, s100, s101, s102, s103, s104, s105, s106, s107, s108, s109, s110, s111, s112, s113, s114, s115, s116, s117, s118], []⟩ wr := by
  conv => arg 2; whnf
  have hKr' := Lib.hid hKr
  have hKn' := Lib.hid hKn
  clear hKr hKn
  have hjl2 : (j : Int) < (L : Int) := by omega
  have hn19 : (n : Int) < 19 := by omega
  have hw1 : IntKind.i64.wrap ((j : Int) + 1) = (j : Int) + 1 := by rw [IntKind.wrap_i64]; omega
  have hbW := below_alloc' wr (.cells #[.int .i64 (n : Nat), .slice xA xb.length xc] 120)
  have hr2 := row_below hr hbW hr.lt
  have hX2 := hX.step hbW
  have hH2 := hX2.cellH (show n < 19 by omega)
  have hcz := crd_cells crd0
  subst hc
  have hbad : Hid (badR X.one n y false = true) := by show _ = _; unfold badR; rw [if_neg (by omega), if_pos hn]; rfl
  have d1 : ((n : Int) == 1) = false := by rw [beq_eq_false_iff_ne]; omega
  have d4 : ((n : Int) == 4) = false := by rw [beq_eq_false_iff_ne]; omega
  have d10 : ((n : Int) == 10) = false := by rw [beq_eq_false_iff_ne]; omega
  have d11 : ((n : Int) == 11) = false := by rw [beq_eq_false_iff_ne]; omega
  have d12 : ((n : Int) == 12) = false := by rw [beq_eq_false_iff_ne]; omega
  have dn : ((n : Int) == 5) = true := by rw [beq_iff_eq]; omega
  clear hn
  have hhH := Lib.hid hh
  have hcv : ∀ W : World, Kp wr.heap.size wr W → (convert 59 9 (.slice xA xb.length xc)).run Try.prog W = .ok (.string ⟨xb.toArray⟩) W := fun W hW => conv_at _b1 hW
  rw [hh] at hH2
  clear hh _b1
  have hbL := hbW
  go_wp2
  refine hKr'.out _ _ _ _ _ _ _ _ _ _ _ _ _ _ _ _ _ _ _ _ _ _ _ _ _ _ _ _ _ _ _ _ _ _ _ _ _ _ _ _ _ _ _ _ _ _ _ _ _ _ _ _ _ _ _ _ _ _ _ _ _ _ _ _ _ ?_ ?_
  · exact hbL
  · exact .inr ⟨rfl, hhH.out, hbad.out⟩
set_option maxHeartbeats 8000000 in
theorem tu_k6f (K : Exit → Act → World → Prop) (cp : Bool) (X : Crd) (ad : Addr) (xA : Option Addr) (xb : List UInt8) (j L c2 xc n g6 g8 y : Nat) (s0 s1 s3 s4 s5 s7 s9 s10 s11 s12 s13 s14 s15 s16 s17 s18 s19 s20 s21 s22 s23 s24 s25 s26 s27 s28 s29 s30 s31 s32 s33 s34 s35 s36 s37 s38 s39 s40 s41 s42 s43 s44 s45 s46 s50 s51 s52 s53 s54 s55 s56 s57 s58 s59 s60 s61 s62 s63 s64 s65 s66 s67 s68 s69 s70 s71 s72 s73 s74 s75 s76 s77 s78 s79 s80 s81 s82 s83 s84 s85 s86 s87 s88 s89 s90 s91 s92 s93 s94 s95 s96 s97 s98 s99 s100 s101 s102 s103 s104 s105 s106 s107 s108 s109 s110 s111 s112 s113 s114 s115 s116 s117 s118 : Value) (wr : World) (hjl : j < L) (_hn1 : 1 ≤ n) (_hn18 : n ≤ 18) (hr : Row wr g6 38) (hX : CrdAt wr g8 X) (q1 : wr.cell? (ad.add (j * 2)) = some (.int .i64 (n : Nat))) (q2 : wr.cell? ⟨(ad.add (j * 2)).block, (ad.add (j * 2)).off + 1, none⟩ = some (.slice xA xb.length xc)) (_b1 : Rd wr wr.heap.size xA (bytesV xb)) (_hbl : ad.block < wr.heap.size) (_hg : g6 ≠ g8) (hLL : L ≤ 9223372036854775807) (hh : X.has n = true) (hn : n = 6) (hc : cp = false)
    (hKr : ∀ (t11 t12 t13 t50 t51 t52 t53 t54 t55 t56 t57 t58 t59 t60 t61 t62 t63 t64 t65 t66 t67 t68 t69 t70 t71 t72 t73 t74 t75 t76 t77 t78 t79 t80 t81 t82 t83 t84 t85 t86 t87 t88 t89 t90 t91 t92 t93 t94 t95 t96 t97 t98 t99 t100 t101 t102 t103 t104 t105 t106 t107 t108 t109 : Value) (z : Int) (w2 : World), Below wr.heap.size wr w2 → (z = 13 ∧ X.has n = false ∨ z = 12 ∧ X.has n = true ∧ badR X.one n y cp = true) → K .ret ⟨#[s0, s1, .bool cp, s3, s4, s5, .pointer (some ⟨g6, 0, none⟩), .int .i64 z, .pointer (some ⟨g8, 0, none⟩), s9, s10, t11, t12, t13, s14, s15, s16, s17, s18, s19, s20, s21, s22, s23, s24, s25, s26, s27, s28, s29, s30, s31, s32, s33, s34, s35, s36, s37, s38, s39, s40, s41, s42, s43, s44, s45, s46, .slice (some ad) L c2, .int .i64 (L : Nat), .int .i64 (j : Nat), t50, t51, t52, t53, t54, t55, t56, t57, t58, t59, t60, t61, t62, t63, t64, t65, t66, t67, t68, t69, t70, t71, t72, t73, t74, t75, t76, t77, t78, t79, t80, t81, t82, t83, t84, t85, t86, t87, t88, t89, t90, t91, t92, t93, t94, t95, t96, t97, t98, t99, t100, t101, t102, t103, t104, t105, t106, t107, t108, t109, s110, s111, s112, s113, s114, s115, s116, s117, s118], []⟩ (w2.setRow g6 (crdA crd0)))
    (hKn : ∀ (t11 t12 t13 t50 t51 t52 t53 t54 t55 t56 t57 t58 t59 t60 t61 t62 t63 t64 t65 t66 t67 t68 t69 t70 t71 t72 t73 t74 t75 t76 t77 t78 t79 t80 t81 t82 t83 t84 t85 t86 t87 t88 t89 t90 t91 t92 t93 t94 t95 t96 t97 t98 t99 t100 t101 t102 t103 t104 t105 t106 t107 t108 t109 : Value) (w2 : World), Below wr.heap.size wr w2 → X.has n = true → badR X.one n y cp = false → K .normal ⟨#[s0, s1, .bool cp, s3, s4, s5, .pointer (some ⟨g6, 0, none⟩), s7, .pointer (some ⟨g8, 0, none⟩), s9, s10, t11, t12, t13, s14, s15, s16, s17, s18, s19, s20, s21, s22, s23, s24, s25, s26, s27, s28, s29, s30, s31, s32, s33, s34, s35, s36, s37, s38, s39, s40, s41, s42, s43, s44, s45, s46, .slice (some ad) L c2, .int .i64 (L : Nat), .int .i64 ((j : Int) + 1), t50, t51, t52, t53, t54, t55, t56, t57, t58, t59, t60, t61, t62, t63, t64, t65, t66, t67, t68, t69, t70, t71, t72, t73, t74, t75, t76, t77, t78, t79, t80, t81, t82, t83, t84, t85, t86, t87, t88, t89, t90, t91, t92, t93, t94, t95, t96, t97, t98, t99, t100, t101, t102, t103, t104, t105, t106, t107, t108, t109, s110, s111, s112, s113, s114, s115, s116, s117, s118], []⟩ w2) :
    Code.wp Try.prog (loopAt Try.f52 0) K ⟨#[s0, s1, .bool cp, s3, s4, s5, .pointer (some ⟨g6, 0, none⟩), s7, .pointer (some ⟨g8, 0, none⟩), s9, s10, s11, s12, s13, s14, s15, s16, s17, s18, s19, s20, s21, s22, s23, s24, s25, s26, s27, s28, s29, s30, s31, s32, s33, s34, s35, s36, s37, s38, s39, s40, s41, s42, s43, s44, s45, s46, .slice (some ad) L c2, .int .i64 (L : Nat), .int .i64 (j : Nat), s50, s51, s52, s53, s54, s55, s56, s57, s58, s59, s60, s61, s62, s63, s64, s65, s66, s67, s68, s69, s70, s71, s72, s73, s74, s75, s76, s77, s78, s79, s80, s81, s82, s83, s84, s85, s86, s87, s88, s89, s90, s91, s92, s93, s94, s95, s96, s97, s98, s99, s100, s101, s102, s103, s104, s105, s106, s107, s108, s109, s110, s111, s112, s113, s114, s115, s116, s117, s118], []⟩ wr := by
  conv => arg 2; whnf
  have hKr' := Lib.hid hKr
  have hKn' := Lib.hid hKn
  clear hKr hKn
  have hjl2 : (j : Int) < (L : Int) := by omega
  have hn19 : (n : Int) < 19 := by omega
  have hw1 : IntKind.i64.wrap ((j : Int) + 1) = (j : Int) + 1 := by rw [IntKind.wrap_i64]; omega
  have hbW := below_alloc' wr (.cells #[.int .i64 (n : Nat), .slice xA xb.length xc] 120)
  have hr2 := row_below hr hbW hr.lt
  have hX2 := hX.step hbW
  have hH2 := hX2.cellH (show n < 19 by omega)
  have hcz := crd_cells crd0
  subst hc
  have hbad : Hid (badR X.one n y false = true) := by show _ = _; unfold badR; rw [if_neg (by omega), if_neg (by omega), if_pos hn]; rfl
  have d1 : ((n : Int) == 1) = false := by rw [beq_eq_false_iff_ne]; omega
  have d4 : ((n : Int) == 4) = false := by rw [beq_eq_false_iff_ne]; omega
  have d10 : ((n : Int) == 10) = false := by rw [beq_eq_false_iff_ne]; omega
  have d11 : ((n : Int) == 11) = false := by rw [beq_eq_false_iff_ne]; omega
  have d12 : ((n : Int) == 12) = false := by rw [beq_eq_false_iff_ne]; omega
  have d5 : ((n : Int) == 5) = false := by rw [beq_eq_false_iff_ne]; omega
  have dn : ((n : Int) == 6) = true := by rw [beq_iff_eq]; omega
  clear hn
  have hhH := Lib.hid hh
  have hcv : ∀ W : World, Kp wr.heap.size wr W → (convert 59 9 (.slice xA xb.length xc)).run Try.prog W = .ok (.string ⟨xb.toArray⟩) W := fun W hW => conv_at _b1 hW
  rw [hh] at hH2
  clear hh _b1
  have hbL := hbW
  go_wp2
  refine hKr'.out _ _ _ _ _ _ _ _ _ _ _ _ _ _ _ _ _ _ _ _ _ _ _ _ _ _ _ _ _ _ _ _ _ _ _ _ _ _ _ _ _ _ _ _ _ _ _ _ _ _ _ _ _ _ _ _ _ _ _ _ _ _ _ _ _ ?_ ?_
  · exact hbL
  · exact .inr ⟨rfl, hhH.out, hbad.out⟩
set_option maxHeartbeats 8000000 in
theorem tu_k6a (K : Exit → Act → World → Prop) (cp : Bool) (X : Crd) (ad : Addr) (xA : Option Addr) (xb : List UInt8) (j L c2 xc n g6 g8 y : Nat) (s0 s1 s3 s4 s5 s7 s9 s10 s11 s12 s13 s14 s15 s16 s17 s18 s19 s20 s21 s22 s23 s24 s25 s26 s27 s28 s29 s30 s31 s32 s33 s34 s35 s36 s37 s38 s39 s40 s41 s42 s43 s44 s45 s46 s50 s51 s52 s53 s54 s55 s56 s57 s58 s59 s60 s61 s62 s63 s64 s65 s66 s67 s68 s69 s70 s71 s72 s73 s74 s75 s76 s77 s78 s79 s80 s81 s82 s83 s84 s85 s86 s87 s88 s89 s90 s91 s92 s93 s94 s95 s96 s97 s98 s99 s100 s101 s102 s103 s104 s105 s106 s107 s108 s109 s110 s111 s112 s113 s114 s115 s116 s117 s118 : Value) (wr : World) (hjl : j < L) (_hn1 : 1 ≤ n) (_hn18 : n ≤ 18) (hr : Row wr g6 38) (hX : CrdAt wr g8 X) (q1 : wr.cell? (ad.add (j * 2)) = some (.int .i64 (n : Nat))) (q2 : wr.cell? ⟨(ad.add (j * 2)).block, (ad.add (j * 2)).off + 1, none⟩ = some (.slice xA xb.length xc)) (_b1 : Rd wr wr.heap.size xA (bytesV xb)) (_hbl : ad.block < wr.heap.size) (_hg : g6 ≠ g8) (hLL : L ≤ 9223372036854775807) (hh : X.has n = true) (hn : n = 6) (hc : cp = true) (hy : y = 0) (hxb : xb = flagB false) (ho : X.one 6 = true)
    (hKr : ∀ (t11 t12 t13 t50 t51 t52 t53 t54 t55 t56 t57 t58 t59 t60 t61 t62 t63 t64 t65 t66 t67 t68 t69 t70 t71 t72 t73 t74 t75 t76 t77 t78 t79 t80 t81 t82 t83 t84 t85 t86 t87 t88 t89 t90 t91 t92 t93 t94 t95 t96 t97 t98 t99 t100 t101 t102 t103 t104 t105 t106 t107 t108 t109 : Value) (z : Int) (w2 : World), Below wr.heap.size wr w2 → (z = 13 ∧ X.has n = false ∨ z = 12 ∧ X.has n = true ∧ badR X.one n y cp = true) → K .ret ⟨#[s0, s1, .bool cp, s3, s4, s5, .pointer (some ⟨g6, 0, none⟩), .int .i64 z, .pointer (some ⟨g8, 0, none⟩), s9, s10, t11, t12, t13, s14, s15, s16, s17, s18, s19, s20, s21, s22, s23, s24, s25, s26, s27, s28, s29, s30, s31, s32, s33, s34, s35, s36, s37, s38, s39, s40, s41, s42, s43, s44, s45, s46, .slice (some ad) L c2, .int .i64 (L : Nat), .int .i64 (j : Nat), t50, t51, t52, t53, t54, t55, t56, t57, t58, t59, t60, t61, t62, t63, t64, t65, t66, t67, t68, t69, t70, t71, t72, t73, t74, t75, t76, t77, t78, t79, t80, t81, t82, t83, t84, t85, t86, t87, t88, t89, t90, t91, t92, t93, t94, t95, t96, t97, t98, t99, t100, t101, t102, t103, t104, t105, t106, t107, t108, t109, s110, s111, s112, s113, s114, s115, s116, s117, s118], []⟩ (w2.setRow g6 (crdA crd0)))
    (hKn : ∀ (t11 t12 t13 t50 t51 t52 t53 t54 t55 t56 t57 t58 t59 t60 t61 t62 t63 t64 t65 t66 t67 t68 t69 t70 t71 t72 t73 t74 t75 t76 t77 t78 t79 t80 t81 t82 t83 t84 t85 t86 t87 t88 t89 t90 t91 t92 t93 t94 t95 t96 t97 t98 t99 t100 t101 t102 t103 t104 t105 t106 t107 t108 t109 : Value) (w2 : World), Below wr.heap.size wr w2 → X.has n = true → badR X.one n y cp = false → K .normal ⟨#[s0, s1, .bool cp, s3, s4, s5, .pointer (some ⟨g6, 0, none⟩), s7, .pointer (some ⟨g8, 0, none⟩), s9, s10, t11, t12, t13, s14, s15, s16, s17, s18, s19, s20, s21, s22, s23, s24, s25, s26, s27, s28, s29, s30, s31, s32, s33, s34, s35, s36, s37, s38, s39, s40, s41, s42, s43, s44, s45, s46, .slice (some ad) L c2, .int .i64 (L : Nat), .int .i64 ((j : Int) + 1), t50, t51, t52, t53, t54, t55, t56, t57, t58, t59, t60, t61, t62, t63, t64, t65, t66, t67, t68, t69, t70, t71, t72, t73, t74, t75, t76, t77, t78, t79, t80, t81, t82, t83, t84, t85, t86, t87, t88, t89, t90, t91, t92, t93, t94, t95, t96, t97, t98, t99, t100, t101, t102, t103, t104, t105, t106, t107, t108, t109, s110, s111, s112, s113, s114, s115, s116, s117, s118], []⟩ w2) :
    Code.wp Try.prog (loopAt Try.f52 0) K ⟨#[s0, s1, .bool cp, s3, s4, s5, .pointer (some ⟨g6, 0, none⟩), s7, .pointer (some ⟨g8, 0, none⟩), s9, s10, s11, s12, s13, s14, s15, s16, s17, s18, s19, s20, s21, s22, s23, s24, s25, s26, s27, s28, s29, s30, s31, s32, s33, s34, s35, s36, s37, s38, s39, s40, s41, s42, s43, s44, s45, s46, .slice (some ad) L c2, .int .i64 (L : Nat), .int .i64 (j : Nat), s50, s51, s52, s53, s54, s55, s56, s57, s58, s59, s60, s61, s62, s63, s64, s65, s66, s67, s68, s69, s70, s71, s72, s73, s74, s75, s76, s77, s78, s79, s80, s81, s82, s83, s84, s85, s86, s87, s88, s89, s90, s91, s92, s93, s94, s95, s96, s97, s98, s99, s100, s101, s102, s103, s104, s105, s106, s107, s108, s109, s110, s111, s112, s113, s114, s115, s116, s117, s118], []⟩ wr := by
  conv => arg 2; whnf
  have hKr' := Lib.hid hKr
  have hKn' := Lib.hid hKn
  clear hKr hKn
  have hjl2 : (j : Int) < (L : Int) := by omega
  have hn19 : (n : Int) < 19 := by omega
  have hw1 : IntKind.i64.wrap ((j : Int) + 1) = (j : Int) + 1 := by rw [IntKind.wrap_i64]; omega
  have hbW := below_alloc' wr (.cells #[.int .i64 (n : Nat), .slice xA xb.length xc] 120)
  have hr2 := row_below hr hbW hr.lt
  have hX2 := hX.step hbW
  have hH2 := hX2.cellH (show n < 19 by omega)
  have hcz := crd_cells crd0
  subst hc
  have hbad : Hid (badR X.one n y true = true) := by show _ = _; unfold badR; rw [if_neg (by omega), if_neg (by omega), if_pos hn]; simp [hy, ho]
  have d1 : ((n : Int) == 1) = false := by rw [beq_eq_false_iff_ne]; omega
  have d4 : ((n : Int) == 4) = false := by rw [beq_eq_false_iff_ne]; omega
  have d10 : ((n : Int) == 10) = false := by rw [beq_eq_false_iff_ne]; omega
  have d11 : ((n : Int) == 11) = false := by rw [beq_eq_false_iff_ne]; omega
  have d12 : ((n : Int) == 12) = false := by rw [beq_eq_false_iff_ne]; omega
  have d5 : ((n : Int) == 5) = false := by rw [beq_eq_false_iff_ne]; omega
  have dn : ((n : Int) == 6) = true := by rw [beq_iff_eq]; omega
  have hhH := Lib.hid hh
  have hcv : ∀ W : World, Kp wr.heap.size wr W → (convert 59 9 (.slice xA xb.length xc)).run Try.prog W = .ok (.string ⟨xb.toArray⟩) W := fun W hW => conv_at _b1 hW
  rw [hh] at hH2
  clear hh _b1
  have hs : (xb == flagB false) = true := by rw [hxb]; simp
  clear hn hy hxb
  have hfl := Lib.hid (fun V => ref_flagS false V)
  generalize flagB false = fb at *
  have aC := hX2.at_
  have rC := hX2.row
  have hone : ∀ V : World, Calls Try.prog 78 #[.agg (crdA X), .int .i64 6] V fun e w' => e = .returned (.bool (X.one 6)) ∧ Below V.heap.size V w' := fun V => ref_One X 6 (by omega) V
  rw [ho] at hone
  have hone' := Lib.hid hone
  clear hone ho
  go_wp2_with fail
  refine (hfl.out _).mono ?_
  rintro e w3 ⟨rfl, rfl⟩
  go_wp2_with fail
  refine (hone'.out _).mono ?_
  rintro e w4 ⟨rfl, hb4⟩
  have hbL := Below.trans hbW (hb4.mono hbW.size)
  have hr4 := row_below hr2 hb4 hr2.lt
  have hX4 := hX2.step hb4
  clear aC rC hr2 hX2 hH2 hone' hfl
  go_wp2
  refine hKr'.out _ _ _ _ _ _ _ _ _ _ _ _ _ _ _ _ _ _ _ _ _ _ _ _ _ _ _ _ _ _ _ _ _ _ _ _ _ _ _ _ _ _ _ _ _ _ _ _ _ _ _ _ _ _ _ _ _ _ _ _ _ _ _ _ _ ?_ ?_
  · exact hbL
  · exact .inr ⟨rfl, hhH.out, hbad.out⟩
set_option maxHeartbeats 8000000 in
theorem tu_k6b (K : Exit → Act → World → Prop) (cp : Bool) (X : Crd) (ad : Addr) (xA : Option Addr) (xb : List UInt8) (j L c2 xc n g6 g8 y : Nat) (s0 s1 s3 s4 s5 s7 s9 s10 s11 s12 s13 s14 s15 s16 s17 s18 s19 s20 s21 s22 s23 s24 s25 s26 s27 s28 s29 s30 s31 s32 s33 s34 s35 s36 s37 s38 s39 s40 s41 s42 s43 s44 s45 s46 s50 s51 s52 s53 s54 s55 s56 s57 s58 s59 s60 s61 s62 s63 s64 s65 s66 s67 s68 s69 s70 s71 s72 s73 s74 s75 s76 s77 s78 s79 s80 s81 s82 s83 s84 s85 s86 s87 s88 s89 s90 s91 s92 s93 s94 s95 s96 s97 s98 s99 s100 s101 s102 s103 s104 s105 s106 s107 s108 s109 s110 s111 s112 s113 s114 s115 s116 s117 s118 : Value) (wr : World) (hjl : j < L) (_hn1 : 1 ≤ n) (_hn18 : n ≤ 18) (hr : Row wr g6 38) (hX : CrdAt wr g8 X) (q1 : wr.cell? (ad.add (j * 2)) = some (.int .i64 (n : Nat))) (q2 : wr.cell? ⟨(ad.add (j * 2)).block, (ad.add (j * 2)).off + 1, none⟩ = some (.slice xA xb.length xc)) (_b1 : Rd wr wr.heap.size xA (bytesV xb)) (_hbl : ad.block < wr.heap.size) (_hg : g6 ≠ g8) (hLL : L ≤ 9223372036854775807) (hh : X.has n = true) (hn : n = 6) (hc : cp = true) (hy : y = 0) (hxb : xb = flagB false) (ho : X.one 6 = false)
    (hKr : ∀ (t11 t12 t13 t50 t51 t52 t53 t54 t55 t56 t57 t58 t59 t60 t61 t62 t63 t64 t65 t66 t67 t68 t69 t70 t71 t72 t73 t74 t75 t76 t77 t78 t79 t80 t81 t82 t83 t84 t85 t86 t87 t88 t89 t90 t91 t92 t93 t94 t95 t96 t97 t98 t99 t100 t101 t102 t103 t104 t105 t106 t107 t108 t109 : Value) (z : Int) (w2 : World), Below wr.heap.size wr w2 → (z = 13 ∧ X.has n = false ∨ z = 12 ∧ X.has n = true ∧ badR X.one n y cp = true) → K .ret ⟨#[s0, s1, .bool cp, s3, s4, s5, .pointer (some ⟨g6, 0, none⟩), .int .i64 z, .pointer (some ⟨g8, 0, none⟩), s9, s10, t11, t12, t13, s14, s15, s16, s17, s18, s19, s20, s21, s22, s23, s24, s25, s26, s27, s28, s29, s30, s31, s32, s33, s34, s35, s36, s37, s38, s39, s40, s41, s42, s43, s44, s45, s46, .slice (some ad) L c2, .int .i64 (L : Nat), .int .i64 (j : Nat), t50, t51, t52, t53, t54, t55, t56, t57, t58, t59, t60, t61, t62, t63, t64, t65, t66, t67, t68, t69, t70, t71, t72, t73, t74, t75, t76, t77, t78, t79, t80, t81, t82, t83, t84, t85, t86, t87, t88, t89, t90, t91, t92, t93, t94, t95, t96, t97, t98, t99, t100, t101, t102, t103, t104, t105, t106, t107, t108, t109, s110, s111, s112, s113, s114, s115, s116, s117, s118], []⟩ (w2.setRow g6 (crdA crd0)))
    (hKn : ∀ (t11 t12 t13 t50 t51 t52 t53 t54 t55 t56 t57 t58 t59 t60 t61 t62 t63 t64 t65 t66 t67 t68 t69 t70 t71 t72 t73 t74 t75 t76 t77 t78 t79 t80 t81 t82 t83 t84 t85 t86 t87 t88 t89 t90 t91 t92 t93 t94 t95 t96 t97 t98 t99 t100 t101 t102 t103 t104 t105 t106 t107 t108 t109 : Value) (w2 : World), Below wr.heap.size wr w2 → X.has n = true → badR X.one n y cp = false → K .normal ⟨#[s0, s1, .bool cp, s3, s4, s5, .pointer (some ⟨g6, 0, none⟩), s7, .pointer (some ⟨g8, 0, none⟩), s9, s10, t11, t12, t13, s14, s15, s16, s17, s18, s19, s20, s21, s22, s23, s24, s25, s26, s27, s28, s29, s30, s31, s32, s33, s34, s35, s36, s37, s38, s39, s40, s41, s42, s43, s44, s45, s46, .slice (some ad) L c2, .int .i64 (L : Nat), .int .i64 ((j : Int) + 1), t50, t51, t52, t53, t54, t55, t56, t57, t58, t59, t60, t61, t62, t63, t64, t65, t66, t67, t68, t69, t70, t71, t72, t73, t74, t75, t76, t77, t78, t79, t80, t81, t82, t83, t84, t85, t86, t87, t88, t89, t90, t91, t92, t93, t94, t95, t96, t97, t98, t99, t100, t101, t102, t103, t104, t105, t106, t107, t108, t109, s110, s111, s112, s113, s114, s115, s116, s117, s118], []⟩ w2) :
    Code.wp Try.prog (loopAt Try.f52 0) K ⟨#[s0, s1, .bool cp, s3, s4, s5, .pointer (some ⟨g6, 0, none⟩), s7, .pointer (some ⟨g8, 0, none⟩), s9, s10, s11, s12, s13, s14, s15, s16, s17, s18, s19, s20, s21, s22, s23, s24, s25, s26, s27, s28, s29, s30, s31, s32, s33, s34, s35, s36, s37, s38, s39, s40, s41, s42, s43, s44, s45, s46, .slice (some ad) L c2, .int .i64 (L : Nat), .int .i64 (j : Nat), s50, s51, s52, s53, s54, s55, s56, s57, s58, s59, s60, s61, s62, s63, s64, s65, s66, s67, s68, s69, s70, s71, s72, s73, s74, s75, s76, s77, s78, s79, s80, s81, s82, s83, s84, s85, s86, s87, s88, s89, s90, s91, s92, s93, s94, s95, s96, s97, s98, s99, s100, s101, s102, s103, s104, s105, s106, s107, s108, s109, s110, s111, s112, s113, s114, s115, s116, s117, s118], []⟩ wr := by
  conv => arg 2; whnf
  have hKr' := Lib.hid hKr
  have hKn' := Lib.hid hKn
  clear hKr hKn
  have hjl2 : (j : Int) < (L : Int) := by omega
  have hn19 : (n : Int) < 19 := by omega
  have hw1 : IntKind.i64.wrap ((j : Int) + 1) = (j : Int) + 1 := by rw [IntKind.wrap_i64]; omega
  have hbW := below_alloc' wr (.cells #[.int .i64 (n : Nat), .slice xA xb.length xc] 120)
  have hr2 := row_below hr hbW hr.lt
  have hX2 := hX.step hbW
  have hH2 := hX2.cellH (show n < 19 by omega)
  have hcz := crd_cells crd0
  subst hc
  have hbad : Hid (badR X.one n y true = false) := by show _ = _; unfold badR; rw [if_neg (by omega), if_neg (by omega), if_pos hn]; simp [hy, ho]
  have d1 : ((n : Int) == 1) = false := by rw [beq_eq_false_iff_ne]; omega
  have d4 : ((n : Int) == 4) = false := by rw [beq_eq_false_iff_ne]; omega
  have d10 : ((n : Int) == 10) = false := by rw [beq_eq_false_iff_ne]; omega
  have d11 : ((n : Int) == 11) = false := by rw [beq_eq_false_iff_ne]; omega
  have d12 : ((n : Int) == 12) = false := by rw [beq_eq_false_iff_ne]; omega
  have d5 : ((n : Int) == 5) = false := by rw [beq_eq_false_iff_ne]; omega
  have dn : ((n : Int) == 6) = true := by rw [beq_iff_eq]; omega
  have hhH := Lib.hid hh
  have hcv : ∀ W : World, Kp wr.heap.size wr W → (convert 59 9 (.slice xA xb.length xc)).run Try.prog W = .ok (.string ⟨xb.toArray⟩) W := fun W hW => conv_at _b1 hW
  rw [hh] at hH2
  clear hh _b1
  have hs : (xb == flagB false) = true := by rw [hxb]; simp
  clear hn hy hxb
  have hfl := Lib.hid (fun V => ref_flagS false V)
  generalize flagB false = fb at *
  have aC := hX2.at_
  have rC := hX2.row
  have hone : ∀ V : World, Calls Try.prog 78 #[.agg (crdA X), .int .i64 6] V fun e w' => e = .returned (.bool (X.one 6)) ∧ Below V.heap.size V w' := fun V => ref_One X 6 (by omega) V
  rw [ho] at hone
  have hone' := Lib.hid hone
  clear hone ho
  go_wp2_with fail
  refine (hfl.out _).mono ?_
  rintro e w3 ⟨rfl, rfl⟩
  go_wp2_with fail
  refine (hone'.out _).mono ?_
  rintro e w4 ⟨rfl, hb4⟩
  have hbL := Below.trans hbW (hb4.mono hbW.size)
  have hr4 := row_below hr2 hb4 hr2.lt
  have hX4 := hX2.step hb4
  clear aC rC hr2 hX2 hH2 hone' hfl
  go_wp2
  refine hKn'.out _ _ _ _ _ _ _ _ _ _ _ _ _ _ _ _ _ _ _ _ _ _ _ _ _ _ _ _ _ _ _ _ _ _ _ _ _ _ _ _ _ _ _ _ _ _ _ _ _ _ _ _ _ _ _ _ _ _ _ _ _ _ _ _ ?_ hhH.out hbad.out
  exact hbL
set_option maxHeartbeats 8000000 in
theorem tu_k6c (K : Exit → Act → World → Prop) (cp : Bool) (X : Crd) (ad : Addr) (xA : Option Addr) (xb : List UInt8) (j L c2 xc n g6 g8 y : Nat) (s0 s1 s3 s4 s5 s7 s9 s10 s11 s12 s13 s14 s15 s16 s17 s18 s19 s20 s21 s22 s23 s24 s25 s26 s27 s28 s29 s30 s31 s32 s33 s34 s35 s36 s37 s38 s39 s40 s41 s42 s43 s44 s45 s46 s50 s51 s52 s53 s54 s55 s56 s57 s58 s59 s60 s61 s62 s63 s64 s65 s66 s67 s68 s69 s70 s71 s72 s73 s74 s75 s76 s77 s78 s79 s80 s81 s82 s83 s84 s85 s86 s87 s88 s89 s90 s91 s92 s93 s94 s95 s96 s97 s98 s99 s100 s101 s102 s103 s104 s105 s106 s107 s108 s109 s110 s111 s112 s113 s114 s115 s116 s117 s118 : Value) (wr : World) (hjl : j < L) (_hn1 : 1 ≤ n) (_hn18 : n ≤ 18) (hr : Row wr g6 38) (hX : CrdAt wr g8 X) (q1 : wr.cell? (ad.add (j * 2)) = some (.int .i64 (n : Nat))) (q2 : wr.cell? ⟨(ad.add (j * 2)).block, (ad.add (j * 2)).off + 1, none⟩ = some (.slice xA xb.length xc)) (_b1 : Rd wr wr.heap.size xA (bytesV xb)) (_hbl : ad.block < wr.heap.size) (_hg : g6 ≠ g8) (hLL : L ≤ 9223372036854775807) (hh : X.has n = true) (hn : n = 6) (hc : cp = true) (hy : y = 1) (hxb : xb = flagB true)
    (hKr : ∀ (t11 t12 t13 t50 t51 t52 t53 t54 t55 t56 t57 t58 t59 t60 t61 t62 t63 t64 t65 t66 t67 t68 t69 t70 t71 t72 t73 t74 t75 t76 t77 t78 t79 t80 t81 t82 t83 t84 t85 t86 t87 t88 t89 t90 t91 t92 t93 t94 t95 t96 t97 t98 t99 t100 t101 t102 t103 t104 t105 t106 t107 t108 t109 : Value) (z : Int) (w2 : World), Below wr.heap.size wr w2 → (z = 13 ∧ X.has n = false ∨ z = 12 ∧ X.has n = true ∧ badR X.one n y cp = true) → K .ret ⟨#[s0, s1, .bool cp, s3, s4, s5, .pointer (some ⟨g6, 0, none⟩), .int .i64 z, .pointer (some ⟨g8, 0, none⟩), s9, s10, t11, t12, t13, s14, s15, s16, s17, s18, s19, s20, s21, s22, s23, s24, s25, s26, s27, s28, s29, s30, s31, s32, s33, s34, s35, s36, s37, s38, s39, s40, s41, s42, s43, s44, s45, s46, .slice (some ad) L c2, .int .i64 (L : Nat), .int .i64 (j : Nat), t50, t51, t52, t53, t54, t55, t56, t57, t58, t59, t60, t61, t62, t63, t64, t65, t66, t67, t68, t69, t70, t71, t72, t73, t74, t75, t76, t77, t78, t79, t80, t81, t82, t83, t84, t85, t86, t87, t88, t89, t90, t91, t92, t93, t94, t95, t96, t97, t98, t99, t100, t101, t102, t103, t104, t105, t106, t107, t108, t109, s110, s111, s112, s113, s114, s115, s116, s117, s118], []⟩ (w2.setRow g6 (crdA crd0)))
    (hKn : ∀ (t11 t12 t13 t50 t51 t52 t53 t54 t55 t56 t57 t58 t59 t60 t61 t62 t63 t64 t65 t66 t67 t68 t69 t70 t71 t72 t73 t74 t75 t76 t77 t78 t79 t80 t81 t82 t83 t84 t85 t86 t87 t88 t89 t90 t91 t92 t93 t94 t95 t96 t97 t98 t99 t100 t101 t102 t103 t104 t105 t106 t107 t108 t109 : Value) (w2 : World), Below wr.heap.size wr w2 → X.has n = true → badR X.one n y cp = false → K .normal ⟨#[s0, s1, .bool cp, s3, s4, s5, .pointer (some ⟨g6, 0, none⟩), s7, .pointer (some ⟨g8, 0, none⟩), s9, s10, t11, t12, t13, s14, s15, s16, s17, s18, s19, s20, s21, s22, s23, s24, s25, s26, s27, s28, s29, s30, s31, s32, s33, s34, s35, s36, s37, s38, s39, s40, s41, s42, s43, s44, s45, s46, .slice (some ad) L c2, .int .i64 (L : Nat), .int .i64 ((j : Int) + 1), t50, t51, t52, t53, t54, t55, t56, t57, t58, t59, t60, t61, t62, t63, t64, t65, t66, t67, t68, t69, t70, t71, t72, t73, t74, t75, t76, t77, t78, t79, t80, t81, t82, t83, t84, t85, t86, t87, t88, t89, t90, t91, t92, t93, t94, t95, t96, t97, t98, t99, t100, t101, t102, t103, t104, t105, t106, t107, t108, t109, s110, s111, s112, s113, s114, s115, s116, s117, s118], []⟩ w2) :
    Code.wp Try.prog (loopAt Try.f52 0) K ⟨#[s0, s1, .bool cp, s3, s4, s5, .pointer (some ⟨g6, 0, none⟩), s7, .pointer (some ⟨g8, 0, none⟩), s9, s10, s11, s12, s13, s14, s15, s16, s17, s18, s19, s20, s21, s22, s23, s24, s25, s26, s27, s28, s29, s30, s31, s32, s33, s34, s35, s36, s37, s38, s39, s40, s41, s42, s43, s44, s45, s46, .slice (some ad) L c2, .int .i64 (L : Nat), .int .i64 (j : Nat), s50, s51, s52, s53, s54, s55, s56, s57, s58, s59, s60, s61, s62, s63, s64, s65, s66, s67, s68, s69, s70, s71, s72, s73, s74, s75, s76, s77, s78, s79, s80, s81, s82, s83, s84, s85, s86, s87, s88, s89, s90, s91, s92, s93, s94, s95, s96, s97, s98, s99, s100, s101, s102, s103, s104, s105, s106, s107, s108, s109, s110, s111, s112, s113, s114, s115, s116, s117, s118], []⟩ wr := by
  conv => arg 2; whnf
  have hKr' := Lib.hid hKr
  have hKn' := Lib.hid hKn
  clear hKr hKn
  have hjl2 : (j : Int) < (L : Int) := by omega
  have hn19 : (n : Int) < 19 := by omega
  have hw1 : IntKind.i64.wrap ((j : Int) + 1) = (j : Int) + 1 := by rw [IntKind.wrap_i64]; omega
  have hbW := below_alloc' wr (.cells #[.int .i64 (n : Nat), .slice xA xb.length xc] 120)
  have hr2 := row_below hr hbW hr.lt
  have hX2 := hX.step hbW
  have hH2 := hX2.cellH (show n < 19 by omega)
  have hcz := crd_cells crd0
  subst hc
  have hbad : Hid (badR X.one n y true = false) := by show _ = _; unfold badR; rw [if_neg (by omega), if_neg (by omega), if_pos hn]; simp [hy]
  have d1 : ((n : Int) == 1) = false := by rw [beq_eq_false_iff_ne]; omega
  have d4 : ((n : Int) == 4) = false := by rw [beq_eq_false_iff_ne]; omega
  have d10 : ((n : Int) == 10) = false := by rw [beq_eq_false_iff_ne]; omega
  have d11 : ((n : Int) == 11) = false := by rw [beq_eq_false_iff_ne]; omega
  have d12 : ((n : Int) == 12) = false := by rw [beq_eq_false_iff_ne]; omega
  have d5 : ((n : Int) == 5) = false := by rw [beq_eq_false_iff_ne]; omega
  have dn : ((n : Int) == 6) = true := by rw [beq_iff_eq]; omega
  have hhH := Lib.hid hh
  have hcv : ∀ W : World, Kp wr.heap.size wr W → (convert 59 9 (.slice xA xb.length xc)).run Try.prog W = .ok (.string ⟨xb.toArray⟩) W := fun W hW => conv_at _b1 hW
  rw [hh] at hH2
  clear hh _b1
  have hs : (xb == flagB false) = false := by rw [hxb]; rfl
  clear hn hy hxb
  have hfl := Lib.hid (fun V => ref_flagS false V)
  generalize flagB false = fb at *
  have aC := hX2.at_
  have rC := hX2.row
  go_wp2_with fail
  refine (hfl.out _).mono ?_
  rintro e w3 ⟨rfl, rfl⟩
  have hbL := hbW
  go_wp2
  refine hKn'.out _ _ _ _ _ _ _ _ _ _ _ _ _ _ _ _ _ _ _ _ _ _ _ _ _ _ _ _ _ _ _ _ _ _ _ _ _ _ _ _ _ _ _ _ _ _ _ _ _ _ _ _ _ _ _ _ _ _ _ _ _ _ _ _ ?_ hhH.out hbad.out
  exact hbL
set_option maxHeartbeats 8000000 in
theorem tu_k8a (K : Exit → Act → World → Prop) (cp : Bool) (X : Crd) (ad : Addr) (xA : Option Addr) (xb : List UInt8) (j L c2 xc n g6 g8 y : Nat) (s0 s1 s3 s4 s5 s7 s9 s10 s11 s12 s13 s14 s15 s16 s17 s18 s19 s20 s21 s22 s23 s24 s25 s26 s27 s28 s29 s30 s31 s32 s33 s34 s35 s36 s37 s38 s39 s40 s41 s42 s43 s44 s45 s46 s50 s51 s52 s53 s54 s55 s56 s57 s58 s59 s60 s61 s62 s63 s64 s65 s66 s67 s68 s69 s70 s71 s72 s73 s74 s75 s76 s77 s78 s79 s80 s81 s82 s83 s84 s85 s86 s87 s88 s89 s90 s91 s92 s93 s94 s95 s96 s97 s98 s99 s100 s101 s102 s103 s104 s105 s106 s107 s108 s109 s110 s111 s112 s113 s114 s115 s116 s117 s118 : Value) (wr : World) (hjl : j < L) (_hn1 : 1 ≤ n) (_hn18 : n ≤ 18) (hr : Row wr g6 38) (hX : CrdAt wr g8 X) (q1 : wr.cell? (ad.add (j * 2)) = some (.int .i64 (n : Nat))) (q2 : wr.cell? ⟨(ad.add (j * 2)).block, (ad.add (j * 2)).off + 1, none⟩ = some (.slice xA xb.length xc)) (_b1 : Rd wr wr.heap.size xA (bytesV xb)) (_hbl : ad.block < wr.heap.size) (_hg : g6 ≠ g8) (hLL : L ≤ 9223372036854775807) (hh : X.has n = true) (hn : n = 8) (hy : y = 0) (hxb : xb = flagB false) (ho : X.one 8 = true)
    (hKr : ∀ (t11 t12 t13 t50 t51 t52 t53 t54 t55 t56 t57 t58 t59 t60 t61 t62 t63 t64 t65 t66 t67 t68 t69 t70 t71 t72 t73 t74 t75 t76 t77 t78 t79 t80 t81 t82 t83 t84 t85 t86 t87 t88 t89 t90 t91 t92 t93 t94 t95 t96 t97 t98 t99 t100 t101 t102 t103 t104 t105 t106 t107 t108 t109 : Value) (z : Int) (w2 : World), Below wr.heap.size wr w2 → (z = 13 ∧ X.has n = false ∨ z = 12 ∧ X.has n = true ∧ badR X.one n y cp = true) → K .ret ⟨#[s0, s1, .bool cp, s3, s4, s5, .pointer (some ⟨g6, 0, none⟩), .int .i64 z, .pointer (some ⟨g8, 0, none⟩), s9, s10, t11, t12, t13, s14, s15, s16, s17, s18, s19, s20, s21, s22, s23, s24, s25, s26, s27, s28, s29, s30, s31, s32, s33, s34, s35, s36, s37, s38, s39, s40, s41, s42, s43, s44, s45, s46, .slice (some ad) L c2, .int .i64 (L : Nat), .int .i64 (j : Nat), t50, t51, t52, t53, t54, t55, t56, t57, t58, t59, t60, t61, t62, t63, t64, t65, t66, t67, t68, t69, t70, t71, t72, t73, t74, t75, t76, t77, t78, t79, t80, t81, t82, t83, t84, t85, t86, t87, t88, t89, t90, t91, t92, t93, t94, t95, t96, t97, t98, t99, t100, t101, t102, t103, t104, t105, t106, t107, t108, t109, s110, s111, s112, s113, s114, s115, s116, s117, s118], []⟩ (w2.setRow g6 (crdA crd0)))
    (hKn : ∀ (t11 t12 t13 t50 t51 t52 t53 t54 t55 t56 t57 t58 t59 t60 t61 t62 t63 t64 t65 t66 t67 t68 t69 t70 t71 t72 t73 t74 t75 t76 t77 t78 t79 t80 t81 t82 t83 t84 t85 t86 t87 t88 t89 t90 t91 t92 t93 t94 t95 t96 t97 t98 t99 t100 t101 t102 t103 t104 t105 t106 t107 t108 t109 : Value) (w2 : World), Below wr.heap.size wr w2 → X.has n = true → badR X.one n y cp = false → K .normal ⟨#[s0, s1, .bool cp, s3, s4, s5, .pointer (some ⟨g6, 0, none⟩), s7, .pointer (some ⟨g8, 0, none⟩), s9, s10, t11, t12, t13, s14, s15, s16, s17, s18, s19, s20, s21, s22, s23, s24, s25, s26, s27, s28, s29, s30, s31, s32, s33, s34, s35, s36, s37, s38, s39, s40, s41, s42, s43, s44, s45, s46, .slice (some ad) L c2, .int .i64 (L : Nat), .int .i64 ((j : Int) + 1), t50, t51, t52, t53, t54, t55, t56, t57, t58, t59, t60, t61, t62, t63, t64, t65, t66, t67, t68, t69, t70, t71, t72, t73, t74, t75, t76, t77, t78, t79, t80, t81, t82, t83, t84, t85, t86, t87, t88, t89, t90, t91, t92, t93, t94, t95, t96, t97, t98, t99, t100, t101, t102, t103, t104, t105, t106, t107, t108, t109, s110, s111, s112, s113, s114, s115, s116, s117, s118], []⟩ w2) :
    Code.wp Try.prog (loopAt Try.f52 0) K ⟨#[s0, s1, .bool cp, s3, s4, s5, .pointer (some ⟨g6, 0, none⟩), s7, .pointer (some ⟨g8, 0, none⟩), s9, s10, s11, s12, s13, s14, s15, s16, s17, s18, s19, s20, s21, s22, s23, s24, s25, s26, s27, s28, s29, s30, s31, s32, s33, s34, s35, s36, s37, s38, s39, s40, s41, s42, s43, s44, s45, s46, .slice (some ad) L c2, .int .i64 (L : Nat), .int .i64 (j : Nat), s50, s51, s52, s53, s54, s55, s56, s57, s58, s59, s60, s61, s62, s63, s64, s65, s66, s67, s68, s69, s70, s71, s72, s73, s74, s75, s76, s77, s78, s79, s80, s81, s82, s83, s84, s85, s86, s87, s88, s89, s90, s91, s92, s93, s94, s95, s96, s97, s98, s99, s100, s101, s102, s103, s104, s105, s106, s107, s108, s109, s110, s111, s112, s113, s114, s115, s116, s117, s118], []⟩ wr := by
  conv => arg 2; whnf
  have hKr' := Lib.hid hKr
  have hKn' := Lib.hid hKn
  clear hKr hKn
  have hjl2 : (j : Int) < (L : Int) := by omega
  have hn19 : (n : Int) < 19 := by omega
  have hw1 : IntKind.i64.wrap ((j : Int) + 1) = (j : Int) + 1 := by rw [IntKind.wrap_i64]; omega
  have hbW := below_alloc' wr (.cells #[.int .i64 (n : Nat), .slice xA xb.length xc] 120)
  have hr2 := row_below hr hbW hr.lt
  have hX2 := hX.step hbW
  have hH2 := hX2.cellH (show n < 19 by omega)
  have hcz := crd_cells crd0
  have hbad : Hid (badR X.one n y cp = true) := by show _ = _; unfold badR; rw [if_neg (by omega), if_neg (by omega), if_neg (by omega), if_pos hn]; simp [hy, ho]
  have d1 : ((n : Int) == 1) = false := by rw [beq_eq_false_iff_ne]; omega
  have d4 : ((n : Int) == 4) = false := by rw [beq_eq_false_iff_ne]; omega
  have d10 : ((n : Int) == 10) = false := by rw [beq_eq_false_iff_ne]; omega
  have d11 : ((n : Int) == 11) = false := by rw [beq_eq_false_iff_ne]; omega
  have d12 : ((n : Int) == 12) = false := by rw [beq_eq_false_iff_ne]; omega
  have d5 : ((n : Int) == 5) = false := by rw [beq_eq_false_iff_ne]; omega
  have d6 : ((n : Int) == 6) = false := by rw [beq_eq_false_iff_ne]; omega
  have dn : ((n : Int) == 8) = true := by rw [beq_iff_eq]; omega
  have hhH := Lib.hid hh
  have hcv : ∀ W : World, Kp wr.heap.size wr W → (convert 59 9 (.slice xA xb.length xc)).run Try.prog W = .ok (.string ⟨xb.toArray⟩) W := fun W hW => conv_at _b1 hW
  rw [hh] at hH2
  clear hh _b1
  have hs : (xb == flagB false) = true := by rw [hxb]; simp
  clear hn hy hxb
  have hfl := Lib.hid (fun V => ref_flagS false V)
  generalize flagB false = fb at *
  have aC := hX2.at_
  have rC := hX2.row
  have hone : ∀ V : World, Calls Try.prog 78 #[.agg (crdA X), .int .i64 8] V fun e w' => e = .returned (.bool (X.one 8)) ∧ Below V.heap.size V w' := fun V => ref_One X 8 (by omega) V
  rw [ho] at hone
  have hone' := Lib.hid hone
  clear hone ho
  go_wp2_with fail
  refine (hfl.out _).mono ?_
  rintro e w3 ⟨rfl, rfl⟩
  go_wp2_with fail
  refine (hone'.out _).mono ?_
  rintro e w4 ⟨rfl, hb4⟩
  have hbL := Below.trans hbW (hb4.mono hbW.size)
  have hr4 := row_below hr2 hb4 hr2.lt
  have hX4 := hX2.step hb4
  clear aC rC hr2 hX2 hH2 hone' hfl
  go_wp2
  refine hKr'.out _ _ _ _ _ _ _ _ _ _ _ _ _ _ _ _ _ _ _ _ _ _ _ _ _ _ _ _ _ _ _ _ _ _ _ _ _ _ _ _ _ _ _ _ _ _ _ _ _ _ _ _ _ _ _ _ _ _ _ _ _ _ _ _ _ ?_ ?_
  · exact hbL
  · exact .inr ⟨rfl, hhH.out, hbad.out⟩
set_option maxHeartbeats 8000000 in
theorem tu_k8b (K : Exit → Act → World → Prop) (cp : Bool) (X : Crd) (ad : Addr) (xA : Option Addr) (xb : List UInt8) (j L c2 xc n g6 g8 y : Nat) (s0 s1 s3 s4 s5 s7 s9 s10 s11 s12 s13 s14 s15 s16 s17 s18 s19 s20 s21 s22 s23 s24 s25 s26 s27 s28 s29 s30 s31 s32 s33 s34 s35 s36 s37 s38 s39 s40 s41 s42 s43 s44 s45 s46 s50 s51 s52 s53 s54 s55 s56 s57 s58 s59 s60 s61 s62 s63 s64 s65 s66 s67 s68 s69 s70 s71 s72 s73 s74 s75 s76 s77 s78 s79 s80 s81 s82 s83 s84 s85 s86 s87 s88 s89 s90 s91 s92 s93 s94 s95 s96 s97 s98 s99 s100 s101 s102 s103 s104 s105 s106 s107 s108 s109 s110 s111 s112 s113 s114 s115 s116 s117 s118 : Value) (wr : World) (hjl : j < L) (_hn1 : 1 ≤ n) (_hn18 : n ≤ 18) (hr : Row wr g6 38) (hX : CrdAt wr g8 X) (q1 : wr.cell? (ad.add (j * 2)) = some (.int .i64 (n : Nat))) (q2 : wr.cell? ⟨(ad.add (j * 2)).block, (ad.add (j * 2)).off + 1, none⟩ = some (.slice xA xb.length xc)) (_b1 : Rd wr wr.heap.size xA (bytesV xb)) (_hbl : ad.block < wr.heap.size) (_hg : g6 ≠ g8) (hLL : L ≤ 9223372036854775807) (hh : X.has n = true) (hn : n = 8) (hy : y = 0) (hxb : xb = flagB false) (ho : X.one 8 = false)
    (hKr : ∀ (t11 t12 t13 t50 t51 t52 t53 t54 t55 t56 t57 t58 t59 t60 t61 t62 t63 t64 t65 t66 t67 t68 t69 t70 t71 t72 t73 t74 t75 t76 t77 t78 t79 t80 t81 t82 t83 t84 t85 t86 t87 t88 t89 t90 t91 t92 t93 t94 t95 t96 t97 t98 t99 t100 t101 t102 t103 t104 t105 t106 t107 t108 t109 : Value) (z : Int) (w2 : World), Below wr.heap.size wr w2 → (z = 13 ∧ X.has n = false ∨ z = 12 ∧ X.has n = true ∧ badR X.one n y cp = true) → K .ret ⟨#[s0, s1, .bool cp, s3, s4, s5, .pointer (some ⟨g6, 0, none⟩), .int .i64 z, .pointer (some ⟨g8, 0, none⟩), s9, s10, t11, t12, t13, s14, s15, s16, s17, s18, s19, s20, s21, s22, s23, s24, s25, s26, s27, s28, s29, s30, s31, s32, s33, s34, s35, s36, s37, s38, s39, s40, s41, s42, s43, s44, s45, s46, .slice (some ad) L c2, .int .i64 (L : Nat), .int .i64 (j : Nat), t50, t51, t52, t53, t54, t55, t56, t57, t58, t59, t60, t61, t62, t63, t64, t65, t66, t67, t68, t69, t70, t71, t72, t73, t74, t75, t76, t77, t78, t79, t80, t81, t82, t83, t84, t85, t86, t87, t88, t89, t90, t91, t92, t93, t94, t95, t96, t97, t98, t99, t100, t101, t102, t103, t104, t105, t106, t107, t108, t109, s110, s111, s112, s113, s114, s115, s116, s117, s118], []⟩ (w2.setRow g6 (crdA crd0)))
    (hKn : ∀ (t11 t12 t13 t50 t51 t52 t53 t54 t55 t56 t57 t58 t59 t60 t61 t62 t63 t64 t65 t66 t67 t68 t69 t70 t71 t72 t73 t74 t75 t76 t77 t78 t79 t80 t81 t82 t83 t84 t85 t86 t87 t88 t89 t90 t91 t92 t93 t94 t95 t96 t97 t98 t99 t100 t101 t102 t103 t104 t105 t106 t107 t108 t109 : Value) (w2 : World), Below wr.heap.size wr w2 → X.has n = true → badR X.one n y cp = false → K .normal ⟨#[s0, s1, .bool cp, s3, s4, s5, .pointer (some ⟨g6, 0, none⟩), s7, .pointer (some ⟨g8, 0, none⟩), s9, s10, t11, t12, t13, s14, s15, s16, s17, s18, s19, s20, s21, s22, s23, s24, s25, s26, s27, s28, s29, s30, s31, s32, s33, s34, s35, s36, s37, s38, s39, s40, s41, s42, s43, s44, s45, s46, .slice (some ad) L c2, .int .i64 (L : Nat), .int .i64 ((j : Int) + 1), t50, t51, t52, t53, t54, t55, t56, t57, t58, t59, t60, t61, t62, t63, t64, t65, t66, t67, t68, t69, t70, t71, t72, t73, t74, t75, t76, t77, t78, t79, t80, t81, t82, t83, t84, t85, t86, t87, t88, t89, t90, t91, t92, t93, t94, t95, t96, t97, t98, t99, t100, t101, t102, t103, t104, t105, t106, t107, t108, t109, s110, s111, s112, s113, s114, s115, s116, s117, s118], []⟩ w2) :
    Code.wp Try.prog (loopAt Try.f52 0) K ⟨#[s0, s1, .bool cp, s3, s4, s5, .pointer (some ⟨g6, 0, none⟩), s7, .pointer (some ⟨g8, 0, none⟩), s9, s10, s11, s12, s13, s14, s15, s16, s17, s18, s19, s20, s21, s22, s23, s24, s25, s26, s27, s28, s29, s30, s31, s32, s33, s34, s35, s36, s37, s38, s39, s40, s41, s42, s43, s44, s45, s46, .slice (some ad) L c2, .int .i64 (L : Nat), .int .i64 (j : Nat), s50, s51, s52, s53, s54, s55, s56, s57, s58, s59, s60, s61, s62, s63, s64, s65, s66, s67, s68, s69, s70, s71, s72, s73, s74, s75, s76, s77, s78, s79, s80, s81, s82, s83, s84, s85, s86, s87, s88, s89, s90, s91, s92, s93, s94, s95, s96, s97, s98, s99, s100, s101, s102, s103, s104, s105, s106, s107, s108, s109, s110, s111, s112, s113, s114, s115, s116, s117, s118], []⟩ wr := by
  conv => arg 2; whnf
  have hKr' := Lib.hid hKr
  have hKn' := Lib.hid hKn
  clear hKr hKn
  have hjl2 : (j : Int) < (L : Int) := by omega
  have hn19 : (n : Int) < 19 := by omega
  have hw1 : IntKind.i64.wrap ((j : Int) + 1) = (j : Int) + 1 := by rw [IntKind.wrap_i64]; omega
  have hbW := below_alloc' wr (.cells #[.int .i64 (n : Nat), .slice xA xb.length xc] 120)
  have hr2 := row_below hr hbW hr.lt
  have hX2 := hX.step hbW
  have hH2 := hX2.cellH (show n < 19 by omega)
  have hcz := crd_cells crd0
  have hbad : Hid (badR X.one n y cp = false) := by show _ = _; unfold badR; rw [if_neg (by omega), if_neg (by omega), if_neg (by omega), if_pos hn]; simp [hy, ho]
  have d1 : ((n : Int) == 1) = false := by rw [beq_eq_false_iff_ne]; omega
  have d4 : ((n : Int) == 4) = false := by rw [beq_eq_false_iff_ne]; omega
  have d10 : ((n : Int) == 10) = false := by rw [beq_eq_false_iff_ne]; omega
  have d11 : ((n : Int) == 11) = false := by rw [beq_eq_false_iff_ne]; omega
  have d12 : ((n : Int) == 12) = false := by rw [beq_eq_false_iff_ne]; omega
  have d5 : ((n : Int) == 5) = false := by rw [beq_eq_false_iff_ne]; omega
  have d6 : ((n : Int) == 6) = false := by rw [beq_eq_false_iff_ne]; omega
  have dn : ((n : Int) == 8) = true := by rw [beq_iff_eq]; omega
  have hhH := Lib.hid hh
  have hcv : ∀ W : World, Kp wr.heap.size wr W → (convert 59 9 (.slice xA xb.length xc)).run Try.prog W = .ok (.string ⟨xb.toArray⟩) W := fun W hW => conv_at _b1 hW
  rw [hh] at hH2
  clear hh _b1
  have hs : (xb == flagB false) = true := by rw [hxb]; simp
  clear hn hy hxb
  have hfl := Lib.hid (fun V => ref_flagS false V)
  generalize flagB false = fb at *
  have aC := hX2.at_
  have rC := hX2.row
  have hone : ∀ V : World, Calls Try.prog 78 #[.agg (crdA X), .int .i64 8] V fun e w' => e = .returned (.bool (X.one 8)) ∧ Below V.heap.size V w' := fun V => ref_One X 8 (by omega) V
  rw [ho] at hone
  have hone' := Lib.hid hone
  clear hone ho
  go_wp2_with fail
  refine (hfl.out _).mono ?_
  rintro e w3 ⟨rfl, rfl⟩
  go_wp2_with fail
  refine (hone'.out _).mono ?_
  rintro e w4 ⟨rfl, hb4⟩
  have hbL := Below.trans hbW (hb4.mono hbW.size)
  have hr4 := row_below hr2 hb4 hr2.lt
  have hX4 := hX2.step hb4
  clear aC rC hr2 hX2 hH2 hone' hfl
  go_wp2
  refine hKn'.out _ _ _ _ _ _ _ _ _ _ _ _ _ _ _ _ _ _ _ _ _ _ _ _ _ _ _ _ _ _ _ _ _ _ _ _ _ _ _ _ _ _ _ _ _ _ _ _ _ _ _ _ _ _ _ _ _ _ _ _ _ _ _ _ ?_ hhH.out hbad.out
  exact hbL
set_option maxHeartbeats 8000000 in
theorem tu_k8c (K : Exit → Act → World → Prop) (cp : Bool) (X : Crd) (ad : Addr) (xA : Option Addr) (xb : List UInt8) (j L c2 xc n g6 g8 y : Nat) (s0 s1 s3 s4 s5 s7 s9 s10 s11 s12 s13 s14 s15 s16 s17 s18 s19 s20 s21 s22 s23 s24 s25 s26 s27 s28 s29 s30 s31 s32 s33 s34 s35 s36 s37 s38 s39 s40 s41 s42 s43 s44 s45 s46 s50 s51 s52 s53 s54 s55 s56 s57 s58 s59 s60 s61 s62 s63 s64 s65 s66 s67 s68 s69 s70 s71 s72 s73 s74 s75 s76 s77 s78 s79 s80 s81 s82 s83 s84 s85 s86 s87 s88 s89 s90 s91 s92 s93 s94 s95 s96 s97 s98 s99 s100 s101 s102 s103 s104 s105 s106 s107 s108 s109 s110 s111 s112 s113 s114 s115 s116 s117 s118 : Value) (wr : World) (hjl : j < L) (_hn1 : 1 ≤ n) (_hn18 : n ≤ 18) (hr : Row wr g6 38) (hX : CrdAt wr g8 X) (q1 : wr.cell? (ad.add (j * 2)) = some (.int .i64 (n : Nat))) (q2 : wr.cell? ⟨(ad.add (j * 2)).block, (ad.add (j * 2)).off + 1, none⟩ = some (.slice xA xb.length xc)) (_b1 : Rd wr wr.heap.size xA (bytesV xb)) (_hbl : ad.block < wr.heap.size) (_hg : g6 ≠ g8) (hLL : L ≤ 9223372036854775807) (hh : X.has n = true) (hn : n = 8) (hy : y = 1) (hxb : xb = flagB true)
    (hKr : ∀ (t11 t12 t13 t50 t51 t52 t53 t54 t55 t56 t57 t58 t59 t60 t61 t62 t63 t64 t65 t66 t67 t68 t69 t70 t71 t72 t73 t74 t75 t76 t77 t78 t79 t80 t81 t82 t83 t84 t85 t86 t87 t88 t89 t90 t91 t92 t93 t94 t95 t96 t97 t98 t99 t100 t101 t102 t103 t104 t105 t106 t107 t108 t109 : Value) (z : Int) (w2 : World), Below wr.heap.size wr w2 → (z = 13 ∧ X.has n = false ∨ z = 12 ∧ X.has n = true ∧ badR X.one n y cp = true) → K .ret ⟨#[s0, s1, .bool cp, s3, s4, s5, .pointer (some ⟨g6, 0, none⟩), .int .i64 z, .pointer (some ⟨g8, 0, none⟩), s9, s10, t11, t12, t13, s14, s15, s16, s17, s18, s19, s20, s21, s22, s23, s24, s25, s26, s27, s28, s29, s30, s31, s32, s33, s34, s35, s36, s37, s38, s39, s40, s41, s42, s43, s44, s45, s46, .slice (some ad) L c2, .int .i64 (L : Nat), .int .i64 (j : Nat), t50, t51, t52, t53, t54, t55, t56, t57, t58, t59, t60, t61, t62, t63, t64, t65, t66, t67, t68, t69, t70, t71, t72, t73, t74, t75, t76, t77, t78, t79, t80, t81, t82, t83, t84, t85, t86, t87, t88, t89, t90, t91, t92, t93, t94, t95, t96, t97, t98, t99, t100, t101, t102, t103, t104, t105, t106, t107, t108, t109, s110, s111, s112, s113, s114, s115, s116, s117, s118], []⟩ (w2.setRow g6 (crdA crd0)))
    (hKn : ∀ (t11 t12 t13 t50 t51 t52 t53 t54 t55 t56 t57 t58 t59 t60 t61 t62 t63 t64 t65 t66 t67 t68 t69 t70 t71 t72 t73 t74 t75 t76 t77 t78 t79 t80 t81 t82 t83 t84 t85 t86 t87 t88 t89 t90 t91 t92 t93 t94 t95 t96 t97 t98 t99 t100 t101 t102 t103 t104 t105 t106 t107 t108 t109 : Value) (w2 : World), Below wr.heap.size wr w2 → X.has n = true → badR X.one n y cp = false → K .normal ⟨#[s0, s1, .bool cp, s3, s4, s5, .pointer (some ⟨g6, 0, none⟩), s7, .pointer (some ⟨g8, 0, none⟩), s9, s10, t11, t12, t13, s14, s15, s16, s17, s18, s19, s20, s21, s22, s23, s24, s25, s26, s27, s28, s29, s30, s31, s32, s33, s34, s35, s36, s37, s38, s39, s40, s41, s42, s43, s44, s45, s46, .slice (some ad) L c2, .int .i64 (L : Nat), .int .i64 ((j : Int) + 1), t50, t51, t52, t53, t54, t55, t56, t57, t58, t59, t60, t61, t62, t63, t64, t65, t66, t67, t68, t69, t70, t71, t72, t73, t74, t75, t76, t77, t78, t79, t80, t81, t82, t83, t84, t85, t86, t87, t88, t89, t90, t91, t92, t93, t94, t95, t96, t97, t98, t99, t100, t101, t102, t103, t104, t105, t106, t107, t108, t109, s110, s111, s112, s113, s114, s115, s116, s117, s118], []⟩ w2) :
    Code.wp Try.prog (loopAt Try.f52 0) K ⟨#[s0, s1, .bool cp, s3, s4, s5, .pointer (some ⟨g6, 0, none⟩), s7, .pointer (some ⟨g8, 0, none⟩), s9, s10, s11, s12, s13, s14, s15, s16, s17, s18, s19, s20, s21, s22, s23, s24, s25, s26, s27, s28, s29, s30, s31, s32, s33, s34, s35, s36, s37, s38, s39, s40, s41, s42, s43, s44, s45, s46, .slice (some ad) L c2, .int .i64 (L : Nat), .int .i64 (j : Nat), s50, s51, s52, s53, s54, s55, s56, s57, s58, s59, s60, s61, s62, s63, s64, s65, s66, s67, s68, s69, s70, s71, s72, s73, s74, s75, s76, s77, s78, s79, s80, s81, s82, s83, s84, s85, s86, s87, s88, s89, s90, s91, s92, s93, s94, s95, s96, s97, s98, s99, s100, s101, s102, s103, s104, s105, s106, s107, s108, s109, s110, s111, s112, s113, s114, s115, s116, s117, s118], []⟩ wr := by
  conv => arg 2; whnf
  have hKr' := Lib.hid hKr
  have hKn' := Lib.hid hKn
  clear hKr hKn
  have hjl2 : (j : Int) < (L : Int) := by omega
  have hn19 : (n : Int) < 19 := by omega
  have hw1 : IntKind.i64.wrap ((j : Int) + 1) = (j : Int) + 1 := by rw [IntKind.wrap_i64]; omega
  have hbW := below_alloc' wr (.cells #[.int .i64 (n : Nat), .slice xA xb.length xc] 120)
  have hr2 := row_below hr hbW hr.lt
  have hX2 := hX.step hbW
  have hH2 := hX2.cellH (show n < 19 by omega)
  have hcz := crd_cells crd0
  have hbad : Hid (badR X.one n y cp = false) := by show _ = _; unfold badR; rw [if_neg (by omega), if_neg (by omega), if_neg (by omega), if_pos hn]; simp [hy]
  have d1 : ((n : Int) == 1) = false := by rw [beq_eq_false_iff_ne]; omega
  have d4 : ((n : Int) == 4) = false := by rw [beq_eq_false_iff_ne]; omega
  have d10 : ((n : Int) == 10) = false := by rw [beq_eq_false_iff_ne]; omega
  have d11 : ((n : Int) == 11) = false := by rw [beq_eq_false_iff_ne]; omega
  have d12 : ((n : Int) == 12) = false := by rw [beq_eq_false_iff_ne]; omega
  have d5 : ((n : Int) == 5) = false := by rw [beq_eq_false_iff_ne]; omega
  have d6 : ((n : Int) == 6) = false := by rw [beq_eq_false_iff_ne]; omega
  have dn : ((n : Int) == 8) = true := by rw [beq_iff_eq]; omega
  have hhH := Lib.hid hh
  have hcv : ∀ W : World, Kp wr.heap.size wr W → (convert 59 9 (.slice xA xb.length xc)).run Try.prog W = .ok (.string ⟨xb.toArray⟩) W := fun W hW => conv_at _b1 hW
  rw [hh] at hH2
  clear hh _b1
  have hs : (xb == flagB false) = false := by rw [hxb]; rfl
  clear hn hy hxb
  have hfl := Lib.hid (fun V => ref_flagS false V)
  generalize flagB false = fb at *
  have aC := hX2.at_
  have rC := hX2.row
  go_wp2_with fail
  refine (hfl.out _).mono ?_
  rintro e w3 ⟨rfl, rfl⟩
  have hbL := hbW
  go_wp2
  refine hKn'.out _ _ _ _ _ _ _ _ _ _ _ _ _ _ _ _ _ _ _ _ _ _ _ _ _ _ _ _ _ _ _ _ _ _ _ _ _ _ _ _ _ _ _ _ _ _ _ _ _ _ _ _ _ _ _ _ _ _ _ _ _ _ _ _ ?_ hhH.out hbad.out
  exact hbL
set_option maxHeartbeats 8000000 in
theorem tu_k9a (K : Exit → Act → World → Prop) (cp : Bool) (X : Crd) (ad : Addr) (xA : Option Addr) (xb : List UInt8) (j L c2 xc n g6 g8 y : Nat) (s0 s1 s3 s4 s5 s7 s9 s10 s11 s12 s13 s14 s15 s16 s17 s18 s19 s20 s21 s22 s23 s24 s25 s26 s27 s28 s29 s30 s31 s32 s33 s34 s35 s36 s37 s38 s39 s40 s41 s42 s43 s44 s45 s46 s50 s51 s52 s53 s54 s55 s56 s57 s58 s59 s60 s61 s62 s63 s64 s65 s66 s67 s68 s69 s70 s71 s72 s73 s74 s75 s76 s77 s78 s79 s80 s81 s82 s83 s84 s85 s86 s87 s88 s89 s90 s91 s92 s93 s94 s95 s96 s97 s98 s99 s100 s101 s102 s103 s104 s105 s106 s107 s108 s109 s110 s111 s112 s113 s114 s115 s116 s117 s118 : Value) (wr : World) (hjl : j < L) (_hn1 : 1 ≤ n) (_hn18 : n ≤ 18) (hr : Row wr g6 38) (hX : CrdAt wr g8 X) (q1 : wr.cell? (ad.add (j * 2)) = some (.int .i64 (n : Nat))) (q2 : wr.cell? ⟨(ad.add (j * 2)).block, (ad.add (j * 2)).off + 1, none⟩ = some (.slice xA xb.length xc)) (_b1 : Rd wr wr.heap.size xA (bytesV xb)) (_hbl : ad.block < wr.heap.size) (_hg : g6 ≠ g8) (hLL : L ≤ 9223372036854775807) (hh : X.has n = true) (hn : n = 9) (hy : y = 1) (hxb : xb = flagB true) (ho : X.one 9 = false)
    (hKr : ∀ (t11 t12 t13 t50 t51 t52 t53 t54 t55 t56 t57 t58 t59 t60 t61 t62 t63 t64 t65 t66 t67 t68 t69 t70 t71 t72 t73 t74 t75 t76 t77 t78 t79 t80 t81 t82 t83 t84 t85 t86 t87 t88 t89 t90 t91 t92 t93 t94 t95 t96 t97 t98 t99 t100 t101 t102 t103 t104 t105 t106 t107 t108 t109 : Value) (z : Int) (w2 : World), Below wr.heap.size wr w2 → (z = 13 ∧ X.has n = false ∨ z = 12 ∧ X.has n = true ∧ badR X.one n y cp = true) → K .ret ⟨#[s0, s1, .bool cp, s3, s4, s5, .pointer (some ⟨g6, 0, none⟩), .int .i64 z, .pointer (some ⟨g8, 0, none⟩), s9, s10, t11, t12, t13, s14, s15, s16, s17, s18, s19, s20, s21, s22, s23, s24, s25, s26, s27, s28, s29, s30, s31, s32, s33, s34, s35, s36, s37, s38, s39, s40, s41, s42, s43, s44, s45, s46, .slice (some ad) L c2, .int .i64 (L : Nat), .int .i64 (j : Nat), t50, t51, t52, t53, t54, t55, t56, t57, t58, t59, t60, t61, t62, t63, t64, t65, t66, t67, t68, t69, t70, t71, t72, t73, t74, t75, t76, t77, t78, t79, t80, t81, t82, t83, t84, t85, t86, t87, t88, t89, t90, t91, t92, t93, t94, t95, t96, t97, t98, t99, t100, t101, t102, t103, t104, t105, t106, t107, t108, t109, s110, s111, s112, s113, s114, s115, s116, s117, s118], []⟩ (w2.setRow g6 (crdA crd0)))
    (hKn : ∀ (t11 t12 t13 t50 t51 t52 t53 t54 t55 t56 t57 t58 t59 t60 t61 t62 t63 t64 t65 t66 t67 t68 t69 t70 t71 t72 t73 t74 t75 t76 t77 t78 t79 t80 t81 t82 t83 t84 t85 t86 t87 t88 t89 t90 t91 t92 t93 t94 t95 t96 t97 t98 t99 t100 t101 t102 t103 t104 t105 t106 t107 t108 t109 : Value) (w2 : World), Below wr.heap.size wr w2 → X.has n = true → badR X.one n y cp = false → K .normal ⟨#[s0, s1, .bool cp, s3, s4, s5, .pointer (some ⟨g6, 0, none⟩), s7, .pointer (some ⟨g8, 0, none⟩), s9, s10, t11, t12, t13, s14, s15, s16, s17, s18, s19, s20, s21, s22, s23, s24, s25, s26, s27, s28, s29, s30, s31, s32, s33, s34, s35, s36, s37, s38, s39, s40, s41, s42, s43, s44, s45, s46, .slice (some ad) L c2, .int .i64 (L : Nat), .int .i64 ((j : Int) + 1), t50, t51, t52, t53, t54, t55, t56, t57, t58, t59, t60, t61, t62, t63, t64, t65, t66, t67, t68, t69, t70, t71, t72, t73, t74, t75, t76, t77, t78, t79, t80, t81, t82, t83, t84, t85, t86, t87, t88, t89, t90, t91, t92, t93, t94, t95, t96, t97, t98, t99, t100, t101, t102, t103, t104, t105, t106, t107, t108, t109, s110, s111, s112, s113, s114, s115, s116, s117, s118], []⟩ w2) :
    Code.wp Try.prog (loopAt Try.f52 0) K ⟨#[s0, s1, .bool cp, s3, s4, s5, .pointer (some ⟨g6, 0, none⟩), s7, .pointer (some ⟨g8, 0, none⟩), s9, s10, s11, s12, s13, s14, s15, s16, s17, s18, s19, s20, s21, s22, s23, s24, s25, s26, s27, s28, s29, s30, s31, s32, s33, s34, s35, s36, s37, s38, s39, s40, s41, s42, s43, s44, s45, s46, .slice (some ad) L c2, .int .i64 (L : Nat), .int .i64 (j : Nat), s50, s51, s52, s53, s54, s55, s56, s57, s58, s59, s60, s61, s62, s63, s64, s65, s66, s67, s68, s69, s70, s71, s72, s73, s74, s75, s76, s77, s78, s79, s80, s81, s82, s83, s84, s85, s86, s87, s88, s89, s90, s91, s92, s93, s94, s95, s96, s97, s98, s99, s100, s101, s102, s103, s104, s105, s106, s107, s108, s109, s110, s111, s112, s113, s114, s115, s116, s117, s118], []⟩ wr := by
  conv => arg 2; whnf
  have hKr' := Lib.hid hKr
  have hKn' := Lib.hid hKn
  clear hKr hKn
  have hjl2 : (j : Int) < (L : Int) := by omega
  have hn19 : (n : Int) < 19 := by omega
  have hw1 : IntKind.i64.wrap ((j : Int) + 1) = (j : Int) + 1 := by rw [IntKind.wrap_i64]; omega
  have hbW := below_alloc' wr (.cells #[.int .i64 (n : Nat), .slice xA xb.length xc] 120)
  have hr2 := row_below hr hbW hr.lt
  have hX2 := hX.step hbW
  have hH2 := hX2.cellH (show n < 19 by omega)
  have hcz := crd_cells crd0
  have hbad : Hid (badR X.one n y cp = true) := by show _ = _; unfold badR; rw [if_neg (by omega), if_neg (by omega), if_neg (by omega), if_neg (by omega), if_pos hn]; simp [hy, ho]
  have d1 : ((n : Int) == 1) = false := by rw [beq_eq_false_iff_ne]; omega
  have d4 : ((n : Int) == 4) = false := by rw [beq_eq_false_iff_ne]; omega
  have d10 : ((n : Int) == 10) = false := by rw [beq_eq_false_iff_ne]; omega
  have d11 : ((n : Int) == 11) = false := by rw [beq_eq_false_iff_ne]; omega
  have d12 : ((n : Int) == 12) = false := by rw [beq_eq_false_iff_ne]; omega
  have d5 : ((n : Int) == 5) = false := by rw [beq_eq_false_iff_ne]; omega
  have d6 : ((n : Int) == 6) = false := by rw [beq_eq_false_iff_ne]; omega
  have d8 : ((n : Int) == 8) = false := by rw [beq_eq_false_iff_ne]; omega
  have dn : ((n : Int) == 9) = true := by rw [beq_iff_eq]; omega
  have hhH := Lib.hid hh
  have hcv : ∀ W : World, Kp wr.heap.size wr W → (convert 59 9 (.slice xA xb.length xc)).run Try.prog W = .ok (.string ⟨xb.toArray⟩) W := fun W hW => conv_at _b1 hW
  rw [hh] at hH2
  clear hh _b1
  have hs : (xb == flagB true) = true := by rw [hxb]; simp
  clear hn hy hxb
  have hfl := Lib.hid (fun V => ref_flagS true V)
  generalize flagB true = fb at *
  have aC := hX2.at_
  have rC := hX2.row
  have hone : ∀ V : World, Calls Try.prog 78 #[.agg (crdA X), .int .i64 9] V fun e w' => e = .returned (.bool (X.one 9)) ∧ Below V.heap.size V w' := fun V => ref_One X 9 (by omega) V
  rw [ho] at hone
  have hone' := Lib.hid hone
  clear hone ho
  go_wp2_with fail
  refine (hfl.out _).mono ?_
  rintro e w3 ⟨rfl, rfl⟩
  go_wp2_with fail
  refine (hone'.out _).mono ?_
  rintro e w4 ⟨rfl, hb4⟩
  have hbL := Below.trans hbW (hb4.mono hbW.size)
  have hr4 := row_below hr2 hb4 hr2.lt
  have hX4 := hX2.step hb4
  clear aC rC hr2 hX2 hH2 hone' hfl
  go_wp2
  refine hKr'.out _ _ _ _ _ _ _ _ _ _ _ _ _ _ _ _ _ _ _ _ _ _ _ _ _ _ _ _ _ _ _ _ _ _ _ _ _ _ _ _ _ _ _ _ _ _ _ _ _ _ _ _ _ _ _ _ _ _ _ _ _ _ _ _ _ ?_ ?_
  · exact hbL
  · exact .inr ⟨rfl, hhH.out, hbad.out⟩
set_option maxHeartbeats 8000000 in
theorem tu_k9b (K : Exit → Act → World → Prop) (cp : Bool) (X : Crd) (ad : Addr) (xA : Option Addr) (xb : List UInt8) (j L c2 xc n g6 g8 y : Nat) (s0 s1 s3 s4 s5 s7 s9 s10 s11 s12 s13 s14 s15 s16 s17 s18 s19 s20 s21 s22 s23 s24 s25 s26 s27 s28 s29 s30 s31 s32 s33 s34 s35 s36 s37 s38 s39 s40 s41 s42 s43 s44 s45 s46 s50 s51 s52 s53 s54 s55 s56 s57 s58 s59 s60 s61 s62 s63 s64 s65 s66 s67 s68 s69 s70 s71 s72 s73 s74 s75 s76 s77 s78 s79 s80 s81 s82 s83 s84 s85 s86 s87 s88 s89 s90 s91 s92 s93 s94 s95 s96 s97 s98 s99 s100 s101 s102 s103 s104 s105 s106 s107 s108 s109 s110 s111 s112 s113 s114 s115 s116 s117 s118 : Value) (wr : World) (hjl : j < L) (_hn1 : 1 ≤ n) (_hn18 : n ≤ 18) (hr : Row wr g6 38) (hX : CrdAt wr g8 X) (q1 : wr.cell? (ad.add (j * 2)) = some (.int .i64 (n : Nat))) (q2 : wr.cell? ⟨(ad.add (j * 2)).block, (ad.add (j * 2)).off + 1, none⟩ = some (.slice xA xb.length xc)) (_b1 : Rd wr wr.heap.size xA (bytesV xb)) (_hbl : ad.block < wr.heap.size) (_hg : g6 ≠ g8) (hLL : L ≤ 9223372036854775807) (hh : X.has n = true) (hn : n = 9) (hy : y = 1) (hxb : xb = flagB true) (ho : X.one 9 = true)
    (hKr : ∀ (t11 t12 t13 t50 t51 t52 t53 t54 t55 t56 t57 t58 t59 t60 t61 t62 t63 t64 t65 t66 t67 t68 t69 t70 t71 t72 t73 t74 t75 t76 t77 t78 t79 t80 t81 t82 t83 t84 t85 t86 t87 t88 t89 t90 t91 t92 t93 t94 t95 t96 t97 t98 t99 t100 t101 t102 t103 t104 t105 t106 t107 t108 t109 : Value) (z : Int) (w2 : World), Below wr.heap.size wr w2 → (z = 13 ∧ X.has n = false ∨ z = 12 ∧ X.has n = true ∧ badR X.one n y cp = true) → K .ret ⟨#[s0, s1, .bool cp, s3, s4, s5, .pointer (some ⟨g6, 0, none⟩), .int .i64 z, .pointer (some ⟨g8, 0, none⟩), s9, s10, t11, t12, t13, s14, s15, s16, s17, s18, s19, s20, s21, s22, s23, s24, s25, s26, s27, s28, s29, s30, s31, s32, s33, s34, s35, s36, s37, s38, s39, s40, s41, s42, s43, s44, s45, s46, .slice (some ad) L c2, .int .i64 (L : Nat), .int .i64 (j : Nat), t50, t51, t52, t53, t54, t55, t56, t57, t58, t59, t60, t61, t62, t63, t64, t65, t66, t67, t68, t69, t70, t71, t72, t73, t74, t75, t76, t77, t78, t79, t80, t81, t82, t83, t84, t85, t86, t87, t88, t89, t90, t91, t92, t93, t94, t95, t96, t97, t98, t99, t100, t101, t102, t103, t104, t105, t106, t107, t108, t109, s110, s111, s112, s113, s114, s115, s116, s117, s118], []⟩ (w2.setRow g6 (crdA crd0)))
    (hKn : ∀ (t11 t12 t13 t50 t51 t52 t53 t54 t55 t56 t57 t58 t59 t60 t61 t62 t63 t64 t65 t66 t67 t68 t69 t70 t71 t72 t73 t74 t75 t76 t77 t78 t79 t80 t81 t82 t83 t84 t85 t86 t87 t88 t89 t90 t91 t92 t93 t94 t95 t96 t97 t98 t99 t100 t101 t102 t103 t104 t105 t106 t107 t108 t109 : Value) (w2 : World), Below wr.heap.size wr w2 → X.has n = true → badR X.one n y cp = false → K .normal ⟨#[s0, s1, .bool cp, s3, s4, s5, .pointer (some ⟨g6, 0, none⟩), s7, .pointer (some ⟨g8, 0, none⟩), s9, s10, t11, t12, t13, s14, s15, s16, s17, s18, s19, s20, s21, s22, s23, s24, s25, s26, s27, s28, s29, s30, s31, s32, s33, s34, s35, s36, s37, s38, s39, s40, s41, s42, s43, s44, s45, s46, .slice (some ad) L c2, .int .i64 (L : Nat), .int .i64 ((j : Int) + 1), t50, t51, t52, t53, t54, t55, t56, t57, t58, t59, t60, t61, t62, t63, t64, t65, t66, t67, t68, t69, t70, t71, t72, t73, t74, t75, t76, t77, t78, t79, t80, t81, t82, t83, t84, t85, t86, t87, t88, t89, t90, t91, t92, t93, t94, t95, t96, t97, t98, t99, t100, t101, t102, t103, t104, t105, t106, t107, t108, t109, s110, s111, s112, s113, s114, s115, s116, s117, s118], []⟩ w2) :
    Code.wp Try.prog (loopAt Try.f52 0) K ⟨#[s0, s1, .bool cp, s3, s4, s5, .pointer (some ⟨g6, 0, none⟩), s7, .pointer (some ⟨g8, 0, none⟩), s9, s10, s11, s12, s13, s14, s15, s16, s17, s18, s19, s20, s21, s22, s23, s24, s25, s26, s27, s28, s29, s30, s31, s32, s33, s34, s35, s36, s37, s38, s39, s40, s41, s42, s43, s44, s45, s46, .slice (some ad) L c2, .int .i64 (L : Nat), .int .i64 (j : Nat), s50, s51, s52, s53, s54, s55, s56, s57, s58, s59, s60, s61, s62, s63, s64, s65, s66, s67, s68, s69, s70, s71, s72, s73, s74, s75, s76, s77, s78, s79, s80, s81, s82, s83, s84, s85, s86, s87, s88, s89, s90, s91, s92, s93, s94, s95, s96, s97, s98, s99, s100, s101, s102, s103, s104, s105, s106, s107, s108, s109, s110, s111, s112, s113, s114, s115, s116, s117, s118], []⟩ wr := by
  conv => arg 2; whnf
  have hKr' := Lib.hid hKr
  have hKn' := Lib.hid hKn
  clear hKr hKn
  have hjl2 : (j : Int) < (L : Int) := by omega
  have hn19 : (n : Int) < 19 := by omega
  have hw1 : IntKind.i64.wrap ((j : Int) + 1) = (j : Int) + 1 := by rw [IntKind.wrap_i64]; omega
  have hbW := below_alloc' wr (.cells #[.int .i64 (n : Nat), .slice xA xb.length xc] 120)
  have hr2 := row_below hr hbW hr.lt
  have hX2 := hX.step hbW
  have hH2 := hX2.cellH (show n < 19 by omega)
  have hcz := crd_cells crd0
  have hbad : Hid (badR X.one n y cp = false) := by show _ = _; unfold badR; rw [if_neg (by omega), if_neg (by omega), if_neg (by omega), if_neg (by omega), if_pos hn]; simp [hy, ho]
  have d1 : ((n : Int) == 1) = false := by rw [beq_eq_false_iff_ne]; omega
  have d4 : ((n : Int) == 4) = false := by rw [beq_eq_false_iff_ne]; omega
  have d10 : ((n : Int) == 10) = false := by rw [beq_eq_false_iff_ne]; omega
  have d11 : ((n : Int) == 11) = false := by rw [beq_eq_false_iff_ne]; omega
  have d12 : ((n : Int) == 12) = false := by rw [beq_eq_false_iff_ne]; omega
  have d5 : ((n : Int) == 5) = false := by rw [beq_eq_false_iff_ne]; omega
  have d6 : ((n : Int) == 6) = false := by rw [beq_eq_false_iff_ne]; omega
  have d8 : ((n : Int) == 8) = false := by rw [beq_eq_false_iff_ne]; omega
  have dn : ((n : Int) == 9) = true := by rw [beq_iff_eq]; omega
  have hhH := Lib.hid hh
  have hcv : ∀ W : World, Kp wr.heap.size wr W → (convert 59 9 (.slice xA xb.length xc)).run Try.prog W = .ok (.string ⟨xb.toArray⟩) W := fun W hW => conv_at _b1 hW
  rw [hh] at hH2
  clear hh _b1
  have hs : (xb == flagB true) = true := by rw [hxb]; simp
  clear hn hy hxb
  have hfl := Lib.hid (fun V => ref_flagS true V)
  generalize flagB true = fb at *
  have aC := hX2.at_
  have rC := hX2.row
  have hone : ∀ V : World, Calls Try.prog 78 #[.agg (crdA X), .int .i64 9] V fun e w' => e = .returned (.bool (X.one 9)) ∧ Below V.heap.size V w' := fun V => ref_One X 9 (by omega) V
  rw [ho] at hone
  have hone' := Lib.hid hone
  clear hone ho
  go_wp2_with fail
  refine (hfl.out _).mono ?_
  rintro e w3 ⟨rfl, rfl⟩
  go_wp2_with fail
  refine (hone'.out _).mono ?_
  rintro e w4 ⟨rfl, hb4⟩
  have hbL := Below.trans hbW (hb4.mono hbW.size)
  have hr4 := row_below hr2 hb4 hr2.lt
  have hX4 := hX2.step hb4
  clear aC rC hr2 hX2 hH2 hone' hfl
  go_wp2
  refine hKn'.out _ _ _ _ _ _ _ _ _ _ _ _ _ _ _ _ _ _ _ _ _ _ _ _ _ _ _ _ _ _ _ _ _ _ _ _ _ _ _ _ _ _ _ _ _ _ _ _ _ _ _ _ _ _ _ _ _ _ _ _ _ _ _ _ ?_ hhH.out hbad.out
  exact hbL
set_option maxHeartbeats 8000000 in
theorem tu_k9c (K : Exit → Act → World → Prop) (cp : Bool) (X : Crd) (ad : Addr) (xA : Option Addr) (xb : List UInt8) (j L c2 xc n g6 g8 y : Nat) (s0 s1 s3 s4 s5 s7 s9 s10 s11 s12 s13 s14 s15 s16 s17 s18 s19 s20 s21 s22 s23 s24 s25 s26 s27 s28 s29 s30 s31 s32 s33 s34 s35 s36 s37 s38 s39 s40 s41 s42 s43 s44 s45 s46 s50 s51 s52 s53 s54 s55 s56 s57 s58 s59 s60 s61 s62 s63 s64 s65 s66 s67 s68 s69 s70 s71 s72 s73 s74 s75 s76 s77 s78 s79 s80 s81 s82 s83 s84 s85 s86 s87 s88 s89 s90 s91 s92 s93 s94 s95 s96 s97 s98 s99 s100 s101 s102 s103 s104 s105 s106 s107 s108 s109 s110 s111 s112 s113 s114 s115 s116 s117 s118 : Value) (wr : World) (hjl : j < L) (_hn1 : 1 ≤ n) (_hn18 : n ≤ 18) (hr : Row wr g6 38) (hX : CrdAt wr g8 X) (q1 : wr.cell? (ad.add (j * 2)) = some (.int .i64 (n : Nat))) (q2 : wr.cell? ⟨(ad.add (j * 2)).block, (ad.add (j * 2)).off + 1, none⟩ = some (.slice xA xb.length xc)) (_b1 : Rd wr wr.heap.size xA (bytesV xb)) (_hbl : ad.block < wr.heap.size) (_hg : g6 ≠ g8) (hLL : L ≤ 9223372036854775807) (hh : X.has n = true) (hn : n = 9) (hy : y = 0) (hxb : xb = flagB false)
    (hKr : ∀ (t11 t12 t13 t50 t51 t52 t53 t54 t55 t56 t57 t58 t59 t60 t61 t62 t63 t64 t65 t66 t67 t68 t69 t70 t71 t72 t73 t74 t75 t76 t77 t78 t79 t80 t81 t82 t83 t84 t85 t86 t87 t88 t89 t90 t91 t92 t93 t94 t95 t96 t97 t98 t99 t100 t101 t102 t103 t104 t105 t106 t107 t108 t109 : Value) (z : Int) (w2 : World), Below wr.heap.size wr w2 → (z = 13 ∧ X.has n = false ∨ z = 12 ∧ X.has n = true ∧ badR X.one n y cp = true) → K .ret ⟨#[s0, s1, .bool cp, s3, s4, s5, .pointer (some ⟨g6, 0, none⟩), .int .i64 z, .pointer (some ⟨g8, 0, none⟩), s9, s10, t11, t12, t13, s14, s15, s16, s17, s18, s19, s20, s21, s22, s23, s24, s25, s26, s27, s28, s29, s30, s31, s32, s33, s34, s35, s36, s37, s38, s39, s40, s41, s42, s43, s44, s45, s46, .slice (some ad) L c2, .int .i64 (L : Nat), .int .i64 (j : Nat), t50, t51, t52, t53, t54, t55, t56, t57, t58, t59, t60, t61, t62, t63, t64, t65, t66, t67, t68, t69, t70, t71, t72, t73, t74, t75, t76, t77, t78, t79, t80, t81, t82, t83, t84, t85, t86, t87, t88, t89, t90, t91, t92, t93, t94, t95, t96, t97, t98, t99, t100, t101, t102, t103, t104, t105, t106, t107, t108, t109, s110, s111, s112, s113, s114, s115, s116, s117, s118], []⟩ (w2.setRow g6 (crdA crd0)))
    (hKn : ∀ (t11 t12 t13 t50 t51 t52 t53 t54 t55 t56 t57 t58 t59 t60 t61 t62 t63 t64 t65 t66 t67 t68 t69 t70 t71 t72 t73 t74 t75 t76 t77 t78 t79 t80 t81 t82 t83 t84 t85 t86 t87 t88 t89 t90 t91 t92 t93 t94 t95 t96 t97 t98 t99 t100 t101 t102 t103 t104 t105 t106 t107 t108 t109 : Value) (w2 : World), Below wr.heap.size wr w2 → X.has n = true → badR X.one n y cp = false → K .normal ⟨#[s0, s1, .bool cp, s3, s4, s5, .pointer (some ⟨g6, 0, none⟩), s7, .pointer (some ⟨g8, 0, none⟩), s9, s10, t11, t12, t13, s14, s15, s16, s17, s18, s19, s20, s21, s22, s23, s24, s25, s26, s27, s28, s29, s30, s31, s32, s33, s34, s35, s36, s37, s38, s39, s40, s41, s42, s43, s44, s45, s46, .slice (some ad) L c2, .int .i64 (L : Nat), .int .i64 ((j : Int) + 1), t50, t51, t52, t53, t54, t55, t56, t57, t58, t59, t60, t61, t62, t63, t64, t65, t66, t67, t68, t69, t70, t71, t72, t73, t74, t75, t76, t77, t78, t79, t80, t81, t82, t83, t84, t85, t86, t87, t88, t89, t90, t91, t92, t93, t94, t95, t96, t97, t98, t99, t100, t101, t102, t103, t104, t105, t106, t107, t108, t109, s110, s111, s112, s113, s114, s115, s116, s117, s118], []⟩ w2) :
    Code.wp Try.prog (loopAt Try.f52 0) K ⟨#[s0, s1, .bool cp, s3, s4, s5, .pointer (some ⟨g6, 0, none⟩), s7, .pointer (some ⟨g8, 0, none⟩), s9, s10, s11, s12, s13, s14, s15, s16, s17, s18, s19, s20, s21, s22, s23, s24, s25, s26, s27, s28, s29, s30, s31, s32, s33, s34, s35, s36, s37, s38, s39, s40, s41, s42, s43, s44, s45, s46, .slice (some ad) L c2, .int .i64 (L : Nat), .int .i64 (j : Nat), s50, s51, s52, s53, s54, s55, s56, s57, s58, s59, s60, s61, s62, s63, s64, s65, s66, s67, s68, s69, s70, s71, s72, s73, s74, s75, s76, s77, s78, s79, s80, s81, s82, s83, s84, s85, s86, s87, s88, s89, s90, s91, s92, s93, s94, s95, s96, s97, s98, s99, s100, s101, s102, s103, s104, s105, s106, s107, s108, s109, s110, s111, s112, s113, s114, s115, s116, s117, s118], []⟩ wr := by
  conv => arg 2; whnf
  have hKr' := Lib.hid hKr
  have hKn' := Lib.hid hKn
  clear hKr hKn
  have hjl2 : (j : Int) < (L : Int) := by omega
  have hn19 : (n : Int) < 19 := by omega
  have hw1 : IntKind.i64.wrap ((j : Int) + 1) = (j : Int) + 1 := by rw [IntKind.wrap_i64]; omega
  have hbW := below_alloc' wr (.cells #[.int .i64 (n : Nat), .slice xA xb.length xc] 120)
  have hr2 := row_below hr hbW hr.lt
  have hX2 := hX.step hbW
  have hH2 := hX2.cellH (show n < 19 by omega)
  have hcz := crd_cells crd0
  have hbad : Hid (badR X.one n y cp = false) := by show _ = _; unfold badR; rw [if_neg (by omega), if_neg (by omega), if_neg (by omega), if_neg (by omega), if_pos hn]; simp [hy]
  have d1 : ((n : Int) == 1) = false := by rw [beq_eq_false_iff_ne]; omega
  have d4 : ((n : Int) == 4) = false := by rw [beq_eq_false_iff_ne]; omega
  have d10 : ((n : Int) == 10) = false := by rw [beq_eq_false_iff_ne]; omega
  have d11 : ((n : Int) == 11) = false := by rw [beq_eq_false_iff_ne]; omega
  have d12 : ((n : Int) == 12) = false := by rw [beq_eq_false_iff_ne]; omega
  have d5 : ((n : Int) == 5) = false := by rw [beq_eq_false_iff_ne]; omega
  have d6 : ((n : Int) == 6) = false := by rw [beq_eq_false_iff_ne]; omega
  have d8 : ((n : Int) == 8) = false := by rw [beq_eq_false_iff_ne]; omega
  have dn : ((n : Int) == 9) = true := by rw [beq_iff_eq]; omega
  have hhH := Lib.hid hh
  have hcv : ∀ W : World, Kp wr.heap.size wr W → (convert 59 9 (.slice xA xb.length xc)).run Try.prog W = .ok (.string ⟨xb.toArray⟩) W := fun W hW => conv_at _b1 hW
  rw [hh] at hH2
  clear hh _b1
  have hs : (xb == flagB true) = false := by rw [hxb]; rfl
  clear hn hy hxb
  have hfl := Lib.hid (fun V => ref_flagS true V)
  generalize flagB true = fb at *
  have aC := hX2.at_
  have rC := hX2.row
  go_wp2_with fail
  refine (hfl.out _).mono ?_
  rintro e w3 ⟨rfl, rfl⟩
  have hbL := hbW
  go_wp2
  refine hKn'.out _ _ _ _ _ _ _ _ _ _ _ _ _ _ _ _ _ _ _ _ _ _ _ _ _ _ _ _ _ _ _ _ _ _ _ _ _ _ _ _ _ _ _ _ _ _ _ _ _ _ _ _ _ _ _ _ _ _ _ _ _ _ _ _ ?_ hhH.out hbad.out
  exact hbL
set_option maxHeartbeats 8000000 in
theorem tu_else (K : Exit → Act → World → Prop) (cp : Bool) (X : Crd) (ad : Addr) (xA : Option Addr) (xb : List UInt8) (j L c2 xc n g6 g8 y : Nat) (s0 s1 s3 s4 s5 s7 s9 s10 s11 s12 s13 s14 s15 s16 s17 s18 s19 s20 s21 s22 s23 s24 s25 s26 s27 s28 s29 s30 s31 s32 s33 s34 s35 s36 s37 s38 s39 s40 s41 s42 s43 s44 s45 s46 s50 s51 s52 s53 s54 s55 s56 s57 s58 s59 s60 s61 s62 s63 s64 s65 s66 s67 s68 s69 s70 s71 s72 s73 s74 s75 s76 s77 s78 s79 s80 s81 s82 s83 s84 s85 s86 s87 s88 s89 s90 s91 s92 s93 s94 s95 s96 s97 s98 s99 s100 s101 s102 s103 s104 s105 s106 s107 s108 s109 s110 s111 s112 s113 s114 s115 s116 s117 s118 : Value) (wr : World) (hjl : j < L) (_hn1 : 1 ≤ n) (_hn18 : n ≤ 18) (hr : Row wr g6 38) (hX : CrdAt wr g8 X) (q1 : wr.cell? (ad.add (j * 2)) = some (.int .i64 (n : Nat))) (q2 : wr.cell? ⟨(ad.add (j * 2)).block, (ad.add (j * 2)).off + 1, none⟩ = some (.slice xA xb.length xc)) (_b1 : Rd wr wr.heap.size xA (bytesV xb)) (_hbl : ad.block < wr.heap.size) (_hg : g6 ≠ g8) (hLL : L ≤ 9223372036854775807) (hh : X.has n = true) (hne : n ≠ 1 ∧ n ≠ 4 ∧ n ≠ 10 ∧ n ≠ 11 ∧ n ≠ 12 ∧ n ≠ 5 ∧ n ≠ 6 ∧ n ≠ 8 ∧ n ≠ 9)
    (hKr : ∀ (t11 t12 t13 t50 t51 t52 t53 t54 t55 t56 t57 t58 t59 t60 t61 t62 t63 t64 t65 t66 t67 t68 t69 t70 t71 t72 t73 t74 t75 t76 t77 t78 t79 t80 t81 t82 t83 t84 t85 t86 t87 t88 t89 t90 t91 t92 t93 t94 t95 t96 t97 t98 t99 t100 t101 t102 t103 t104 t105 t106 t107 t108 t109 : Value) (z : Int) (w2 : World), Below wr.heap.size wr w2 → (z = 13 ∧ X.has n = false ∨ z = 12 ∧ X.has n = true ∧ badR X.one n y cp = true) → K .ret ⟨#[s0, s1, .bool cp, s3, s4, s5, .pointer (some ⟨g6, 0, none⟩), .int .i64 z, .pointer (some ⟨g8, 0, none⟩), s9, s10, t11, t12, t13, s14, s15, s16, s17, s18, s19, s20, s21, s22, s23, s24, s25, s26, s27, s28, s29, s30, s31, s32, s33, s34, s35, s36, s37, s38, s39, s40, s41, s42, s43, s44, s45, s46, .slice (some ad) L c2, .int .i64 (L : Nat), .int .i64 (j : Nat), t50, t51, t52, t53, t54, t55, t56, t57, t58, t59, t60, t61, t62, t63, t64, t65, t66, t67, t68, t69, t70, t71, t72, t73, t74, t75, t76, t77, t78, t79, t80, t81, t82, t83, t84, t85, t86, t87, t88, t89, t90, t91, t92, t93, t94, t95, t96, t97, t98, t99, t100, t101, t102, t103, t104, t105, t106, t107, t108, t109, s110, s111, s112, s113, s114, s115, s116, s117, s118], []⟩ (w2.setRow g6 (crdA crd0)))
    (hKn : ∀ (t11 t12 t13 t50 t51 t52 t53 t54 t55 t56 t57 t58 t59 t60 t61 t62 t63 t64 t65 t66 t67 t68 t69 t70 t71 t72 t73 t74 t75 t76 t77 t78 t79 t80 t81 t82 t83 t84 t85 t86 t87 t88 t89 t90 t91 t92 t93 t94 t95 t96 t97 t98 t99 t100 t101 t102 t103 t104 t105 t106 t107 t108 t109 : Value) (w2 : World), Below wr.heap.size wr w2 → X.has n = true → badR X.one n y cp = false → K .normal ⟨#[s0, s1, .bool cp, s3, s4, s5, .pointer (some ⟨g6, 0, none⟩), s7, .pointer (some ⟨g8, 0, none⟩), s9, s10, t11, t12, t13, s14, s15, s16, s17, s18, s19, s20, s21, s22, s23, s24, s25, s26, s27, s28, s29, s30, s31, s32, s33, s34, s35, s36, s37, s38, s39, s40, s41, s42, s43, s44, s45, s46, .slice (some ad) L c2, .int .i64 (L : Nat), .int .i64 ((j : Int) + 1), t50, t51, t52, t53, t54, t55, t56, t57, t58, t59, t60, t61, t62, t63, t64, t65, t66, t67, t68, t69, t70, t71, t72, t73, t74, t75, t76, t77, t78, t79, t80, t81, t82, t83, t84, t85, t86, t87, t88, t89, t90, t91, t92, t93, t94, t95, t96, t97, t98, t99, t100, t101, t102, t103, t104, t105, t106, t107, t108, t109, s110, s111, s112, s113, s114, s115, s116, s117, s118], []⟩ w2) :
    Code.wp Try.prog (loopAt Try.f52 0) K ⟨#[s0, s1, .bool cp, s3, s4, s5, .pointer (some ⟨g6, 0, none⟩), s7, .pointer (some ⟨g8, 0, none⟩), s9, s10, s11, s12, s13, s14, s15, s16, s17, s18, s19, s20, s21, s22, s23, s24, s25, s26, s27, s28, s29, s30, s31, s32, s33, s34, s35, s36, s37, s38, s39, s40, s41, s42, s43, s44, s45, s46, .slice (some ad) L c2, .int .i64 (L : Nat), .int .i64 (j : Nat), s50, s51, s52, s53, s54, s55, s56, s57, s58, s59, s60, s61, s62, s63, s64, s65, s66, s67, s68, s69, s70, s71, s72, s73, s74, s75, s76, s77, s78, s79, s80, s81, s82, s83, s84, s85, s86, s87, s88, s89, s90, s91, s92, s93, s94, s95, s96, s97, s98, s99, s100, s101, s102, s103, s104, s105, s106, s107, s108, s109, s110, s111, s112, s113, s114, s115, s116, s117, s118], []⟩ wr := by
  conv => arg 2; whnf
  have hKr' := Lib.hid hKr
  have hKn' := Lib.hid hKn
  clear hKr hKn
  have hjl2 : (j : Int) < (L : Int) := by omega
  have hn19 : (n : Int) < 19 := by omega
  have hw1 : IntKind.i64.wrap ((j : Int) + 1) = (j : Int) + 1 := by rw [IntKind.wrap_i64]; omega
  have hbW := below_alloc' wr (.cells #[.int .i64 (n : Nat), .slice xA xb.length xc] 120)
  have hr2 := row_below hr hbW hr.lt
  have hX2 := hX.step hbW
  have hH2 := hX2.cellH (show n < 19 by omega)
  have hcz := crd_cells crd0
  have hbad : Hid (badR X.one n y cp = false) := by show _ = _; unfold badR; rw [if_neg (by omega), if_neg (by omega), if_neg (by omega), if_neg (by omega), if_neg (by omega)]
  have d1 : ((n : Int) == 1) = false := by rw [beq_eq_false_iff_ne]; omega
  have d4 : ((n : Int) == 4) = false := by rw [beq_eq_false_iff_ne]; omega
  have d10 : ((n : Int) == 10) = false := by rw [beq_eq_false_iff_ne]; omega
  have d11 : ((n : Int) == 11) = false := by rw [beq_eq_false_iff_ne]; omega
  have d12 : ((n : Int) == 12) = false := by rw [beq_eq_false_iff_ne]; omega
  have d5 : ((n : Int) == 5) = false := by rw [beq_eq_false_iff_ne]; omega
  have d6 : ((n : Int) == 6) = false := by rw [beq_eq_false_iff_ne]; omega
  have d8 : ((n : Int) == 8) = false := by rw [beq_eq_false_iff_ne]; omega
  have d9 : ((n : Int) == 9) = false := by rw [beq_eq_false_iff_ne]; omega
  clear hne
  have hhH := Lib.hid hh
  have hcv : ∀ W : World, Kp wr.heap.size wr W → (convert 59 9 (.slice xA xb.length xc)).run Try.prog W = .ok (.string ⟨xb.toArray⟩) W := fun W hW => conv_at _b1 hW
  rw [hh] at hH2
  clear hh _b1
  have hbL := hbW
  go_wp2
  refine hKn'.out _ _ _ _ _ _ _ _ _ _ _ _ _ _ _ _ _ _ _ _ _ _ _ _ _ _ _ _ _ _ _ _ _ _ _ _ _ _ _ _ _ _ _ _ _ _ _ _ _ _ _ _ _ _ _ _ _ _ _ _ _ _ _ _ ?_ hhH.out hbad.out
  exact hbL
set_option maxHeartbeats 8000000 in
theorem tu_body (K : Exit → Act → World → Prop) (cp : Bool) (X : Crd) (ad : Addr) (xA : Option Addr) (xb : List UInt8) (j L c2 xc n g6 g8 y : Nat) (s0 s1 s3 s4 s5 s7 s9 s10 s11 s12 s13 s14 s15 s16 s17 s18 s19 s20 s21 s22 s23 s24 s25 s26 s27 s28 s29 s30 s31 s32 s33 s34 s35 s36 s37 s38 s39 s40 s41 s42 s43 s44 s45 s46 s50 s51 s52 s53 s54 s55 s56 s57 s58 s59 s60 s61 s62 s63 s64 s65 s66 s67 s68 s69 s70 s71 s72 s73 s74 s75 s76 s77 s78 s79 s80 s81 s82 s83 s84 s85 s86 s87 s88 s89 s90 s91 s92 s93 s94 s95 s96 s97 s98 s99 s100 s101 s102 s103 s104 s105 s106 s107 s108 s109 s110 s111 s112 s113 s114 s115 s116 s117 s118 : Value) (wr : World) (hjl : j < L) (_hn1 : 1 ≤ n) (_hn18 : n ≤ 18) (hr : Row wr g6 38) (hX : CrdAt wr g8 X) (q1 : wr.cell? (ad.add (j * 2)) = some (.int .i64 (n : Nat))) (q2 : wr.cell? ⟨(ad.add (j * 2)).block, (ad.add (j * 2)).off + 1, none⟩ = some (.slice xA xb.length xc)) (_b1 : Rd wr wr.heap.size xA (bytesV xb)) (_hbl : ad.block < wr.heap.size) (_hg : g6 ≠ g8) (hLL : L ≤ 9223372036854775807) (hfit : 4 < n → y ≤ 1 ∧ xb = [UInt8.ofNat y])
    (hKr : ∀ (t11 t12 t13 t50 t51 t52 t53 t54 t55 t56 t57 t58 t59 t60 t61 t62 t63 t64 t65 t66 t67 t68 t69 t70 t71 t72 t73 t74 t75 t76 t77 t78 t79 t80 t81 t82 t83 t84 t85 t86 t87 t88 t89 t90 t91 t92 t93 t94 t95 t96 t97 t98 t99 t100 t101 t102 t103 t104 t105 t106 t107 t108 t109 : Value) (z : Int) (w2 : World), Below wr.heap.size wr w2 → (z = 13 ∧ X.has n = false ∨ z = 12 ∧ X.has n = true ∧ badR X.one n y cp = true) → K .ret ⟨#[s0, s1, .bool cp, s3, s4, s5, .pointer (some ⟨g6, 0, none⟩), .int .i64 z, .pointer (some ⟨g8, 0, none⟩), s9, s10, t11, t12, t13, s14, s15, s16, s17, s18, s19, s20, s21, s22, s23, s24, s25, s26, s27, s28, s29, s30, s31, s32, s33, s34, s35, s36, s37, s38, s39, s40, s41, s42, s43, s44, s45, s46, .slice (some ad) L c2, .int .i64 (L : Nat), .int .i64 (j : Nat), t50, t51, t52, t53, t54, t55, t56, t57, t58, t59, t60, t61, t62, t63, t64, t65, t66, t67, t68, t69, t70, t71, t72, t73, t74, t75, t76, t77, t78, t79, t80, t81, t82, t83, t84, t85, t86, t87, t88, t89, t90, t91, t92, t93, t94, t95, t96, t97, t98, t99, t100, t101, t102, t103, t104, t105, t106, t107, t108, t109, s110, s111, s112, s113, s114, s115, s116, s117, s118], []⟩ (w2.setRow g6 (crdA crd0)))
    (hKn : ∀ (t11 t12 t13 t50 t51 t52 t53 t54 t55 t56 t57 t58 t59 t60 t61 t62 t63 t64 t65 t66 t67 t68 t69 t70 t71 t72 t73 t74 t75 t76 t77 t78 t79 t80 t81 t82 t83 t84 t85 t86 t87 t88 t89 t90 t91 t92 t93 t94 t95 t96 t97 t98 t99 t100 t101 t102 t103 t104 t105 t106 t107 t108 t109 : Value) (w2 : World), Below wr.heap.size wr w2 → X.has n = true → badR X.one n y cp = false → K .normal ⟨#[s0, s1, .bool cp, s3, s4, s5, .pointer (some ⟨g6, 0, none⟩), s7, .pointer (some ⟨g8, 0, none⟩), s9, s10, t11, t12, t13, s14, s15, s16, s17, s18, s19, s20, s21, s22, s23, s24, s25, s26, s27, s28, s29, s30, s31, s32, s33, s34, s35, s36, s37, s38, s39, s40, s41, s42, s43, s44, s45, s46, .slice (some ad) L c2, .int .i64 (L : Nat), .int .i64 ((j : Int) + 1), t50, t51, t52, t53, t54, t55, t56, t57, t58, t59, t60, t61, t62, t63, t64, t65, t66, t67, t68, t69, t70, t71, t72, t73, t74, t75, t76, t77, t78, t79, t80, t81, t82, t83, t84, t85, t86, t87, t88, t89, t90, t91, t92, t93, t94, t95, t96, t97, t98, t99, t100, t101, t102, t103, t104, t105, t106, t107, t108, t109, s110, s111, s112, s113, s114, s115, s116, s117, s118], []⟩ w2) :
    Code.wp Try.prog (loopAt Try.f52 0) K ⟨#[s0, s1, .bool cp, s3, s4, s5, .pointer (some ⟨g6, 0, none⟩), s7, .pointer (some ⟨g8, 0, none⟩), s9, s10, s11, s12, s13, s14, s15, s16, s17, s18, s19, s20, s21, s22, s23, s24, s25, s26, s27, s28, s29, s30, s31, s32, s33, s34, s35, s36, s37, s38, s39, s40, s41, s42, s43, s44, s45, s46, .slice (some ad) L c2, .int .i64 (L : Nat), .int .i64 (j : Nat), s50, s51, s52, s53, s54, s55, s56, s57, s58, s59, s60, s61, s62, s63, s64, s65, s66, s67, s68, s69, s70, s71, s72, s73, s74, s75, s76, s77, s78, s79, s80, s81, s82, s83, s84, s85, s86, s87, s88, s89, s90, s91, s92, s93, s94, s95, s96, s97, s98, s99, s100, s101, s102, s103, s104, s105, s106, s107, s108, s109, s110, s111, s112, s113, s114, s115, s116, s117, s118], []⟩ wr := by
  cases hh : X.has n with
  | false => exact tu_no K cp X ad xA xb j L c2 xc n g6 g8 y s0 s1 s3 s4 s5 s7 s9 s10 s11 s12 s13 s14 s15 s16 s17 s18 s19 s20 s21 s22 s23 s24 s25 s26 s27 s28 s29 s30 s31 s32 s33 s34 s35 s36 s37 s38 s39 s40 s41 s42 s43 s44 s45 s46 s50 s51 s52 s53 s54 s55 s56 s57 s58 s59 s60 s61 s62 s63 s64 s65 s66 s67 s68 s69 s70 s71 s72 s73 s74 s75 s76 s77 s78 s79 s80 s81 s82 s83 s84 s85 s86 s87 s88 s89 s90 s91 s92 s93 s94 s95 s96 s97 s98 s99 s100 s101 s102 s103 s104 s105 s106 s107 s108 s109 s110 s111 s112 s113 s114 s115 s116 s117 s118 wr hjl _hn1 _hn18 hr hX q1 q2 _b1 _hbl _hg hLL hh hKr hKn
  | true =>
    by_cases hn : n = 1
    · exact tu_k1 K cp X ad xA xb j L c2 xc n g6 g8 y s0 s1 s3 s4 s5 s7 s9 s10 s11 s12 s13 s14 s15 s16 s17 s18 s19 s20 s21 s22 s23 s24 s25 s26 s27 s28 s29 s30 s31 s32 s33 s34 s35 s36 s37 s38 s39 s40 s41 s42 s43 s44 s45 s46 s50 s51 s52 s53 s54 s55 s56 s57 s58 s59 s60 s61 s62 s63 s64 s65 s66 s67 s68 s69 s70 s71 s72 s73 s74 s75 s76 s77 s78 s79 s80 s81 s82 s83 s84 s85 s86 s87 s88 s89 s90 s91 s92 s93 s94 s95 s96 s97 s98 s99 s100 s101 s102 s103 s104 s105 s106 s107 s108 s109 s110 s111 s112 s113 s114 s115 s116 s117 s118 wr hjl _hn1 _hn18 hr hX q1 q2 _b1 _hbl _hg hLL hh hn hKr hKn
    have n1 := hn
    clear hn
    by_cases hn : n = 4
    · exact tu_k4 K cp X ad xA xb j L c2 xc n g6 g8 y s0 s1 s3 s4 s5 s7 s9 s10 s11 s12 s13 s14 s15 s16 s17 s18 s19 s20 s21 s22 s23 s24 s25 s26 s27 s28 s29 s30 s31 s32 s33 s34 s35 s36 s37 s38 s39 s40 s41 s42 s43 s44 s45 s46 s50 s51 s52 s53 s54 s55 s56 s57 s58 s59 s60 s61 s62 s63 s64 s65 s66 s67 s68 s69 s70 s71 s72 s73 s74 s75 s76 s77 s78 s79 s80 s81 s82 s83 s84 s85 s86 s87 s88 s89 s90 s91 s92 s93 s94 s95 s96 s97 s98 s99 s100 s101 s102 s103 s104 s105 s106 s107 s108 s109 s110 s111 s112 s113 s114 s115 s116 s117 s118 wr hjl _hn1 _hn18 hr hX q1 q2 _b1 _hbl _hg hLL hh hn hKr hKn
    have n4 := hn
    clear hn
    by_cases hn : n = 10
    · exact tu_k10 K cp X ad xA xb j L c2 xc n g6 g8 y s0 s1 s3 s4 s5 s7 s9 s10 s11 s12 s13 s14 s15 s16 s17 s18 s19 s20 s21 s22 s23 s24 s25 s26 s27 s28 s29 s30 s31 s32 s33 s34 s35 s36 s37 s38 s39 s40 s41 s42 s43 s44 s45 s46 s50 s51 s52 s53 s54 s55 s56 s57 s58 s59 s60 s61 s62 s63 s64 s65 s66 s67 s68 s69 s70 s71 s72 s73 s74 s75 s76 s77 s78 s79 s80 s81 s82 s83 s84 s85 s86 s87 s88 s89 s90 s91 s92 s93 s94 s95 s96 s97 s98 s99 s100 s101 s102 s103 s104 s105 s106 s107 s108 s109 s110 s111 s112 s113 s114 s115 s116 s117 s118 wr hjl _hn1 _hn18 hr hX q1 q2 _b1 _hbl _hg hLL hh hn hKr hKn
    have n10 := hn
    clear hn
    by_cases hn : n = 11
    · exact tu_k11 K cp X ad xA xb j L c2 xc n g6 g8 y s0 s1 s3 s4 s5 s7 s9 s10 s11 s12 s13 s14 s15 s16 s17 s18 s19 s20 s21 s22 s23 s24 s25 s26 s27 s28 s29 s30 s31 s32 s33 s34 s35 s36 s37 s38 s39 s40 s41 s42 s43 s44 s45 s46 s50 s51 s52 s53 s54 s55 s56 s57 s58 s59 s60 s61 s62 s63 s64 s65 s66 s67 s68 s69 s70 s71 s72 s73 s74 s75 s76 s77 s78 s79 s80 s81 s82 s83 s84 s85 s86 s87 s88 s89 s90 s91 s92 s93 s94 s95 s96 s97 s98 s99 s100 s101 s102 s103 s104 s105 s106 s107 s108 s109 s110 s111 s112 s113 s114 s115 s116 s117 s118 wr hjl _hn1 _hn18 hr hX q1 q2 _b1 _hbl _hg hLL hh hn hKr hKn
    have n11 := hn
    clear hn
    by_cases hn : n = 12
    · exact tu_k12 K cp X ad xA xb j L c2 xc n g6 g8 y s0 s1 s3 s4 s5 s7 s9 s10 s11 s12 s13 s14 s15 s16 s17 s18 s19 s20 s21 s22 s23 s24 s25 s26 s27 s28 s29 s30 s31 s32 s33 s34 s35 s36 s37 s38 s39 s40 s41 s42 s43 s44 s45 s46 s50 s51 s52 s53 s54 s55 s56 s57 s58 s59 s60 s61 s62 s63 s64 s65 s66 s67 s68 s69 s70 s71 s72 s73 s74 s75 s76 s77 s78 s79 s80 s81 s82 s83 s84 s85 s86 s87 s88 s89 s90 s91 s92 s93 s94 s95 s96 s97 s98 s99 s100 s101 s102 s103 s104 s105 s106 s107 s108 s109 s110 s111 s112 s113 s114 s115 s116 s117 s118 wr hjl _hn1 _hn18 hr hX q1 q2 _b1 _hbl _hg hLL hh hn hKr hKn
    have n12 := hn
    clear hn
    by_cases hn : n = 5
    · cases hc : cp with
      | true => subst hc; exact tu_k5t K true X ad xA xb j L c2 xc n g6 g8 y s0 s1 s3 s4 s5 s7 s9 s10 s11 s12 s13 s14 s15 s16 s17 s18 s19 s20 s21 s22 s23 s24 s25 s26 s27 s28 s29 s30 s31 s32 s33 s34 s35 s36 s37 s38 s39 s40 s41 s42 s43 s44 s45 s46 s50 s51 s52 s53 s54 s55 s56 s57 s58 s59 s60 s61 s62 s63 s64 s65 s66 s67 s68 s69 s70 s71 s72 s73 s74 s75 s76 s77 s78 s79 s80 s81 s82 s83 s84 s85 s86 s87 s88 s89 s90 s91 s92 s93 s94 s95 s96 s97 s98 s99 s100 s101 s102 s103 s104 s105 s106 s107 s108 s109 s110 s111 s112 s113 s114 s115 s116 s117 s118 wr hjl _hn1 _hn18 hr hX q1 q2 _b1 _hbl _hg hLL hh hn rfl hKr hKn
      | false => subst hc; exact tu_k5f K false X ad xA xb j L c2 xc n g6 g8 y s0 s1 s3 s4 s5 s7 s9 s10 s11 s12 s13 s14 s15 s16 s17 s18 s19 s20 s21 s22 s23 s24 s25 s26 s27 s28 s29 s30 s31 s32 s33 s34 s35 s36 s37 s38 s39 s40 s41 s42 s43 s44 s45 s46 s50 s51 s52 s53 s54 s55 s56 s57 s58 s59 s60 s61 s62 s63 s64 s65 s66 s67 s68 s69 s70 s71 s72 s73 s74 s75 s76 s77 s78 s79 s80 s81 s82 s83 s84 s85 s86 s87 s88 s89 s90 s91 s92 s93 s94 s95 s96 s97 s98 s99 s100 s101 s102 s103 s104 s105 s106 s107 s108 s109 s110 s111 s112 s113 s114 s115 s116 s117 s118 wr hjl _hn1 _hn18 hr hX q1 q2 _b1 _hbl _hg hLL hh hn rfl hKr hKn
    have n5 := hn
    clear hn
    by_cases hn : n = 6
    · cases hc : cp with
      | false => subst hc; exact tu_k6f K false X ad xA xb j L c2 xc n g6 g8 y s0 s1 s3 s4 s5 s7 s9 s10 s11 s12 s13 s14 s15 s16 s17 s18 s19 s20 s21 s22 s23 s24 s25 s26 s27 s28 s29 s30 s31 s32 s33 s34 s35 s36 s37 s38 s39 s40 s41 s42 s43 s44 s45 s46 s50 s51 s52 s53 s54 s55 s56 s57 s58 s59 s60 s61 s62 s63 s64 s65 s66 s67 s68 s69 s70 s71 s72 s73 s74 s75 s76 s77 s78 s79 s80 s81 s82 s83 s84 s85 s86 s87 s88 s89 s90 s91 s92 s93 s94 s95 s96 s97 s98 s99 s100 s101 s102 s103 s104 s105 s106 s107 s108 s109 s110 s111 s112 s113 s114 s115 s116 s117 s118 wr hjl _hn1 _hn18 hr hX q1 q2 _b1 _hbl _hg hLL hh hn rfl hKr hKn
      | true =>
        subst hc
        obtain ⟨hy1, hxb⟩ := hfit (by omega)
        by_cases hy : y = 0
        · have hx0 : xb = flagB false := by rw [hxb, hy]; rfl
          cases ho : X.one 6 with
          | true => exact tu_k6a K true X ad xA xb j L c2 xc n g6 g8 y s0 s1 s3 s4 s5 s7 s9 s10 s11 s12 s13 s14 s15 s16 s17 s18 s19 s20 s21 s22 s23 s24 s25 s26 s27 s28 s29 s30 s31 s32 s33 s34 s35 s36 s37 s38 s39 s40 s41 s42 s43 s44 s45 s46 s50 s51 s52 s53 s54 s55 s56 s57 s58 s59 s60 s61 s62 s63 s64 s65 s66 s67 s68 s69 s70 s71 s72 s73 s74 s75 s76 s77 s78 s79 s80 s81 s82 s83 s84 s85 s86 s87 s88 s89 s90 s91 s92 s93 s94 s95 s96 s97 s98 s99 s100 s101 s102 s103 s104 s105 s106 s107 s108 s109 s110 s111 s112 s113 s114 s115 s116 s117 s118 wr hjl _hn1 _hn18 hr hX q1 q2 _b1 _hbl _hg hLL hh hn rfl hy hx0 ho hKr hKn
          | false => exact tu_k6b K true X ad xA xb j L c2 xc n g6 g8 y s0 s1 s3 s4 s5 s7 s9 s10 s11 s12 s13 s14 s15 s16 s17 s18 s19 s20 s21 s22 s23 s24 s25 s26 s27 s28 s29 s30 s31 s32 s33 s34 s35 s36 s37 s38 s39 s40 s41 s42 s43 s44 s45 s46 s50 s51 s52 s53 s54 s55 s56 s57 s58 s59 s60 s61 s62 s63 s64 s65 s66 s67 s68 s69 s70 s71 s72 s73 s74 s75 s76 s77 s78 s79 s80 s81 s82 s83 s84 s85 s86 s87 s88 s89 s90 s91 s92 s93 s94 s95 s96 s97 s98 s99 s100 s101 s102 s103 s104 s105 s106 s107 s108 s109 s110 s111 s112 s113 s114 s115 s116 s117 s118 wr hjl _hn1 _hn18 hr hX q1 q2 _b1 _hbl _hg hLL hh hn rfl hy hx0 ho hKr hKn
        · have hy : y = 1 := by omega
          have hx1 : xb = flagB true := by rw [hxb, hy]; rfl
          exact tu_k6c K true X ad xA xb j L c2 xc n g6 g8 y s0 s1 s3 s4 s5 s7 s9 s10 s11 s12 s13 s14 s15 s16 s17 s18 s19 s20 s21 s22 s23 s24 s25 s26 s27 s28 s29 s30 s31 s32 s33 s34 s35 s36 s37 s38 s39 s40 s41 s42 s43 s44 s45 s46 s50 s51 s52 s53 s54 s55 s56 s57 s58 s59 s60 s61 s62 s63 s64 s65 s66 s67 s68 s69 s70 s71 s72 s73 s74 s75 s76 s77 s78 s79 s80 s81 s82 s83 s84 s85 s86 s87 s88 s89 s90 s91 s92 s93 s94 s95 s96 s97 s98 s99 s100 s101 s102 s103 s104 s105 s106 s107 s108 s109 s110 s111 s112 s113 s114 s115 s116 s117 s118 wr hjl _hn1 _hn18 hr hX q1 q2 _b1 _hbl _hg hLL hh hn rfl hy hx1 hKr hKn
    have n6 := hn
    clear hn
    by_cases hn : n = 8
    · obtain ⟨hy1, hxb⟩ := hfit (by omega)
      by_cases hy : y = 0
      · have hx0 : xb = flagB false := by rw [hxb, hy]; rfl
        cases ho : X.one 8 with
        | true => exact tu_k8a K cp X ad xA xb j L c2 xc n g6 g8 y s0 s1 s3 s4 s5 s7 s9 s10 s11 s12 s13 s14 s15 s16 s17 s18 s19 s20 s21 s22 s23 s24 s25 s26 s27 s28 s29 s30 s31 s32 s33 s34 s35 s36 s37 s38 s39 s40 s41 s42 s43 s44 s45 s46 s50 s51 s52 s53 s54 s55 s56 s57 s58 s59 s60 s61 s62 s63 s64 s65 s66 s67 s68 s69 s70 s71 s72 s73 s74 s75 s76 s77 s78 s79 s80 s81 s82 s83 s84 s85 s86 s87 s88 s89 s90 s91 s92 s93 s94 s95 s96 s97 s98 s99 s100 s101 s102 s103 s104 s105 s106 s107 s108 s109 s110 s111 s112 s113 s114 s115 s116 s117 s118 wr hjl _hn1 _hn18 hr hX q1 q2 _b1 _hbl _hg hLL hh hn hy hx0 ho hKr hKn
        | false => exact tu_k8b K cp X ad xA xb j L c2 xc n g6 g8 y s0 s1 s3 s4 s5 s7 s9 s10 s11 s12 s13 s14 s15 s16 s17 s18 s19 s20 s21 s22 s23 s24 s25 s26 s27 s28 s29 s30 s31 s32 s33 s34 s35 s36 s37 s38 s39 s40 s41 s42 s43 s44 s45 s46 s50 s51 s52 s53 s54 s55 s56 s57 s58 s59 s60 s61 s62 s63 s64 s65 s66 s67 s68 s69 s70 s71 s72 s73 s74 s75 s76 s77 s78 s79 s80 s81 s82 s83 s84 s85 s86 s87 s88 s89 s90 s91 s92 s93 s94 s95 s96 s97 s98 s99 s100 s101 s102 s103 s104 s105 s106 s107 s108 s109 s110 s111 s112 s113 s114 s115 s116 s117 s118 wr hjl _hn1 _hn18 hr hX q1 q2 _b1 _hbl _hg hLL hh hn hy hx0 ho hKr hKn
      · have hy : y = 1 := by omega
        have hx1 : xb = flagB true := by rw [hxb, hy]; rfl
        exact tu_k8c K cp X ad xA xb j L c2 xc n g6 g8 y s0 s1 s3 s4 s5 s7 s9 s10 s11 s12 s13 s14 s15 s16 s17 s18 s19 s20 s21 s22 s23 s24 s25 s26 s27 s28 s29 s30 s31 s32 s33 s34 s35 s36 s37 s38 s39 s40 s41 s42 s43 s44 s45 s46 s50 s51 s52 s53 s54 s55 s56 s57 s58 s59 s60 s61 s62 s63 s64 s65 s66 s67 s68 s69 s70 s71 s72 s73 s74 s75 s76 s77 s78 s79 s80 s81 s82 s83 s84 s85 s86 s87 s88 s89 s90 s91 s92 s93 s94 s95 s96 s97 s98 s99 s100 s101 s102 s103 s104 s105 s106 s107 s108 s109 s110 s111 s112 s113 s114 s115 s116 s117 s118 wr hjl _hn1 _hn18 hr hX q1 q2 _b1 _hbl _hg hLL hh hn hy hx1 hKr hKn
    have n8 := hn
    clear hn
    by_cases hn : n = 9
    · obtain ⟨hy1, hxb⟩ := hfit (by omega)
      by_cases hy : y = 0
      · have hx0 : xb = flagB false := by rw [hxb, hy]; rfl
        exact tu_k9c K cp X ad xA xb j L c2 xc n g6 g8 y s0 s1 s3 s4 s5 s7 s9 s10 s11 s12 s13 s14 s15 s16 s17 s18 s19 s20 s21 s22 s23 s24 s25 s26 s27 s28 s29 s30 s31 s32 s33 s34 s35 s36 s37 s38 s39 s40 s41 s42 s43 s44 s45 s46 s50 s51 s52 s53 s54 s55 s56 s57 s58 s59 s60 s61 s62 s63 s64 s65 s66 s67 s68 s69 s70 s71 s72 s73 s74 s75 s76 s77 s78 s79 s80 s81 s82 s83 s84 s85 s86 s87 s88 s89 s90 s91 s92 s93 s94 s95 s96 s97 s98 s99 s100 s101 s102 s103 s104 s105 s106 s107 s108 s109 s110 s111 s112 s113 s114 s115 s116 s117 s118 wr hjl _hn1 _hn18 hr hX q1 q2 _b1 _hbl _hg hLL hh hn hy hx0 hKr hKn
      · have hy : y = 1 := by omega
        have hx1 : xb = flagB true := by rw [hxb, hy]; rfl
        cases ho : X.one 9 with
        | false => exact tu_k9a K cp X ad xA xb j L c2 xc n g6 g8 y s0 s1 s3 s4 s5 s7 s9 s10 s11 s12 s13 s14 s15 s16 s17 s18 s19 s20 s21 s22 s23 s24 s25 s26 s27 s28 s29 s30 s31 s32 s33 s34 s35 s36 s37 s38 s39 s40 s41 s42 s43 s44 s45 s46 s50 s51 s52 s53 s54 s55 s56 s57 s58 s59 s60 s61 s62 s63 s64 s65 s66 s67 s68 s69 s70 s71 s72 s73 s74 s75 s76 s77 s78 s79 s80 s81 s82 s83 s84 s85 s86 s87 s88 s89 s90 s91 s92 s93 s94 s95 s96 s97 s98 s99 s100 s101 s102 s103 s104 s105 s106 s107 s108 s109 s110 s111 s112 s113 s114 s115 s116 s117 s118 wr hjl _hn1 _hn18 hr hX q1 q2 _b1 _hbl _hg hLL hh hn hy hx1 ho hKr hKn
        | true => exact tu_k9b K cp X ad xA xb j L c2 xc n g6 g8 y s0 s1 s3 s4 s5 s7 s9 s10 s11 s12 s13 s14 s15 s16 s17 s18 s19 s20 s21 s22 s23 s24 s25 s26 s27 s28 s29 s30 s31 s32 s33 s34 s35 s36 s37 s38 s39 s40 s41 s42 s43 s44 s45 s46 s50 s51 s52 s53 s54 s55 s56 s57 s58 s59 s60 s61 s62 s63 s64 s65 s66 s67 s68 s69 s70 s71 s72 s73 s74 s75 s76 s77 s78 s79 s80 s81 s82 s83 s84 s85 s86 s87 s88 s89 s90 s91 s92 s93 s94 s95 s96 s97 s98 s99 s100 s101 s102 s103 s104 s105 s106 s107 s108 s109 s110 s111 s112 s113 s114 s115 s116 s117 s118 wr hjl _hn1 _hn18 hr hX q1 q2 _b1 _hbl _hg hLL hh hn hy hx1 ho hKr hKn
    have n9 := hn
    clear hn
    exact tu_else K cp X ad xA xb j L c2 xc n g6 g8 y s0 s1 s3 s4 s5 s7 s9 s10 s11 s12 s13 s14 s15 s16 s17 s18 s19 s20 s21 s22 s23 s24 s25 s26 s27 s28 s29 s30 s31 s32 s33 s34 s35 s36 s37 s38 s39 s40 s41 s42 s43 s44 s45 s46 s50 s51 s52 s53 s54 s55 s56 s57 s58 s59 s60 s61 s62 s63 s64 s65 s66 s67 s68 s69 s70 s71 s72 s73 s74 s75 s76 s77 s78 s79 s80 s81 s82 s83 s84 s85 s86 s87 s88 s89 s90 s91 s92 s93 s94 s95 s96 s97 s98 s99 s100 s101 s102 s103 s104 s105 s106 s107 s108 s109 s110 s111 s112 s113 s114 s115 s116 s117 s118 wr hjl _hn1 _hn18 hr hX q1 q2 _b1 _hbl _hg hLL hh ⟨n1, n4, n10, n11, n12, n5, n6, n8, n9⟩ hKr hKn
set_option maxHeartbeats 8000000 in
theorem tu_end (K : Exit → Act → World → Prop) (cp : Bool) (A : Option Addr) (L c2 g6 g8 : Nat) (s0 s1 s3 s4 s5 s7 s9 s10 s11 s12 s13 s14 s15 s16 s17 s18 s19 s20 s21 s22 s23 s24 s25 s26 s27 s28 s29 s30 s31 s32 s33 s34 s35 s36 s37 s38 s39 s40 s41 s42 s43 s44 s45 s46 s50 s51 s52 s53 s54 s55 s56 s57 s58 s59 s60 s61 s62 s63 s64 s65 s66 s67 s68 s69 s70 s71 s72 s73 s74 s75 s76 s77 s78 s79 s80 s81 s82 s83 s84 s85 s86 s87 s88 s89 s90 s91 s92 s93 s94 s95 s96 s97 s98 s99 s100 s101 s102 s103 s104 s105 s106 s107 s108 s109 s110 s111 s112 s113 s114 s115 s116 s117 s118 : Value) (wr : World) (hK : ∀ t50 : Value, K (.exit 0) ⟨#[s0, s1, .bool cp, s3, s4, s5, .pointer (some ⟨g6, 0, none⟩), s7, .pointer (some ⟨g8, 0, none⟩), s9, s10, s11, s12, s13, s14, s15, s16, s17, s18, s19, s20, s21, s22, s23, s24, s25, s26, s27, s28, s29, s30, s31, s32, s33, s34, s35, s36, s37, s38, s39, s40, s41, s42, s43, s44, s45, s46, .slice A L c2, .int .i64 (L : Nat), .int .i64 (L : Nat), t50, s51, s52, s53, s54, s55, s56, s57, s58, s59, s60, s61, s62, s63, s64, s65, s66, s67, s68, s69, s70, s71, s72, s73, s74, s75, s76, s77, s78, s79, s80, s81, s82, s83, s84, s85, s86, s87, s88, s89, s90, s91, s92, s93, s94, s95, s96, s97, s98, s99, s100, s101, s102, s103, s104, s105, s106, s107, s108, s109, s110, s111, s112, s113, s114, s115, s116, s117, s118], []⟩ wr) :
    Code.wp Try.prog (loopAt Try.f52 0) K ⟨#[s0, s1, .bool cp, s3, s4, s5, .pointer (some ⟨g6, 0, none⟩), s7, .pointer (some ⟨g8, 0, none⟩), s9, s10, s11, s12, s13, s14, s15, s16, s17, s18, s19, s20, s21, s22, s23, s24, s25, s26, s27, s28, s29, s30, s31, s32, s33, s34, s35, s36, s37, s38, s39, s40, s41, s42, s43, s44, s45, s46, .slice A L c2, .int .i64 (L : Nat), .int .i64 (L : Nat), s50, s51, s52, s53, s54, s55, s56, s57, s58, s59, s60, s61, s62, s63, s64, s65, s66, s67, s68, s69, s70, s71, s72, s73, s74, s75, s76, s77, s78, s79, s80, s81, s82, s83, s84, s85, s86, s87, s88, s89, s90, s91, s92, s93, s94, s95, s96, s97, s98, s99, s100, s101, s102, s103, s104, s105, s106, s107, s108, s109, s110, s111, s112, s113, s114, s115, s116, s117, s118], []⟩ wr := by
  conv => arg 2; whnf
  have hK' := Lib.hid hK
  clear hK
  have hd : decide ((L : Int) < (L : Int)) = false := by simp
  go_wp2
  exact hK'.out _

/-- The first that is found of a list. -/
def scanG (f : KV → Int) : List KV → Int
  | [] => 0
  | x :: r => if f x = 0 then scanG f r else f x
theorem scanG_stop {f : KV → Int} {z : Int} (hz : z ≠ 0) : ∀ (j : Nat) (l : List KV) (hj : j < l.length), (∀ i (h : i < j), f (l[i]'(by omega)) = 0) → f l[j] = z → scanG f l = z := by
  intro j
  induction j with
  | zero =>
    intro l hj _ h
    cases l with
    | nil => simp at hj
    | cons x r => simp only [List.getElem_cons_zero] at h; simp only [scanG, h, if_neg hz]
  | succ j ih =>
    intro l hj h0 h
    cases l with
    | nil => simp at hj
    | cons x r =>
      have h1 := h0 0 (by omega)
      simp only [List.getElem_cons_zero] at h1
      simp only [scanG, h1, if_true]
      exact ih r (by simp at hj; omega) (fun i hi => by simpa using h0 (i + 1) (by omega)) (by simpa using h)
theorem scanG_all {f : KV → Int} : ∀ (l : List KV), (∀ i (h : i < l.length), f l[i] = 0) → scanG f l = 0 := by
  intro l
  induction l with
  | nil => intro _; rfl
  | cons x r ih =>
    intro h
    have h1 := h 0 (by simp)
    simp only [List.getElem_cons_zero] at h1
    simp only [scanG, h1, if_true]
    exact ih fun i hi => by
      have h2 := h (i + 1) (by simp; omega)
      simpa using h2
def scanUAt (X : Crd) (cp : Bool) (x : KV) : Int := if X.has x.1.toNat = false then 13 else if badR X.one x.1.toNat (headB x.2) cp = true then 12 else 0

set_option maxHeartbeats 8000000 in
theorem tu_loop (Q : Exit → Act → World → Prop) (cp : Bool) (X : Crd) (A2 : Option Addr) (m : List At) (c2 g6 g8 : Nat) (s0 s1 s3 s4 s5 s7 s9 s10 s11 s12 s13 s14 s15 s16 s17 s18 s19 s20 s21 s22 s23 s24 s25 s26 s27 s28 s29 s30 s31 s32 s33 s34 s35 s36 s37 s38 s39 s40 s41 s42 s43 s44 s45 s46 s50 s51 s52 s53 s54 s55 s56 s57 s58 s59 s60 s61 s62 s63 s64 s65 s66 s67 s68 s69 s70 s71 s72 s73 s74 s75 s76 s77 s78 s79 s80 s81 s82 s83 s84 s85 s86 s87 s88 s89 s90 s91 s92 s93 s94 s95 s96 s97 s98 s99 s100 s101 s102 s103 s104 s105 s106 s107 s108 s109 s110 s111 s112 s113 s114 s115 s116 s117 s118 : Value) (w : World) (hr : Row w g6 38) (hX : CrdAt w g8 X) (hA : Ats w w.heap.size A2 m) (hgd : Good (m.map At.kv)) (hg : g6 ≠ g8)
    (hKr : ∀ (t11 t12 t13 t50 t51 t52 t53 t54 t55 t56 t57 t58 t59 t60 t61 t62 t63 t64 t65 t66 t67 t68 t69 t70 t71 t72 t73 t74 t75 t76 t77 t78 t79 t80 t81 t82 t83 t84 t85 t86 t87 t88 t89 t90 t91 t92 t93 t94 t95 t96 t97 t98 t99 t100 t101 t102 t103 t104 t105 t106 t107 t108 t109 t49 : Value) (z : Int) (w2 : World), Below w.heap.size w w2 → z ≠ 0 → scanG (scanUAt X cp) (m.map At.kv) = z → Q .ret ⟨#[s0, s1, .bool cp, s3, s4, s5, .pointer (some ⟨g6, 0, none⟩), .int .i64 z, .pointer (some ⟨g8, 0, none⟩), s9, s10, t11, t12, t13, s14, s15, s16, s17, s18, s19, s20, s21, s22, s23, s24, s25, s26, s27, s28, s29, s30, s31, s32, s33, s34, s35, s36, s37, s38, s39, s40, s41, s42, s43, s44, s45, s46, .slice A2 m.length c2, .int .i64 (m.length : Nat), t49, t50, t51, t52, t53, t54, t55, t56, t57, t58, t59, t60, t61, t62, t63, t64, t65, t66, t67, t68, t69, t70, t71, t72, t73, t74, t75, t76, t77, t78, t79, t80, t81, t82, t83, t84, t85, t86, t87, t88, t89, t90, t91, t92, t93, t94, t95, t96, t97, t98, t99, t100, t101, t102, t103, t104, t105, t106, t107, t108, t109, s110, s111, s112, s113, s114, s115, s116, s117, s118], []⟩ (w2.setRow g6 (crdA crd0)))
    (hKe : ∀ (t11 t12 t13 t50 t51 t52 t53 t54 t55 t56 t57 t58 t59 t60 t61 t62 t63 t64 t65 t66 t67 t68 t69 t70 t71 t72 t73 t74 t75 t76 t77 t78 t79 t80 t81 t82 t83 t84 t85 t86 t87 t88 t89 t90 t91 t92 t93 t94 t95 t96 t97 t98 t99 t100 t101 t102 t103 t104 t105 t106 t107 t108 t109 : Value) (w2 : World), Below w.heap.size w w2 → scanG (scanUAt X cp) (m.map At.kv) = 0 → Q (.exit 0) ⟨#[s0, s1, .bool cp, s3, s4, s5, .pointer (some ⟨g6, 0, none⟩), s7, .pointer (some ⟨g8, 0, none⟩), s9, s10, t11, t12, t13, s14, s15, s16, s17, s18, s19, s20, s21, s22, s23, s24, s25, s26, s27, s28, s29, s30, s31, s32, s33, s34, s35, s36, s37, s38, s39, s40, s41, s42, s43, s44, s45, s46, .slice A2 m.length c2, .int .i64 (m.length : Nat), .int .i64 (m.length : Nat), t50, t51, t52, t53, t54, t55, t56, t57, t58, t59, t60, t61, t62, t63, t64, t65, t66, t67, t68, t69, t70, t71, t72, t73, t74, t75, t76, t77, t78, t79, t80, t81, t82, t83, t84, t85, t86, t87, t88, t89, t90, t91, t92, t93, t94, t95, t96, t97, t98, t99, t100, t101, t102, t103, t104, t105, t106, t107, t108, t109, s110, s111, s112, s113, s114, s115, s116, s117, s118], []⟩ w2) :
    Code.wp Try.prog (.loop (loopAt Try.f52 0)) Q ⟨#[s0, s1, .bool cp, s3, s4, s5, .pointer (some ⟨g6, 0, none⟩), s7, .pointer (some ⟨g8, 0, none⟩), s9, s10, s11, s12, s13, s14, s15, s16, s17, s18, s19, s20, s21, s22, s23, s24, s25, s26, s27, s28, s29, s30, s31, s32, s33, s34, s35, s36, s37, s38, s39, s40, s41, s42, s43, s44, s45, s46, .slice A2 m.length c2, .int .i64 (m.length : Nat), .int .i64 0, s50, s51, s52, s53, s54, s55, s56, s57, s58, s59, s60, s61, s62, s63, s64, s65, s66, s67, s68, s69, s70, s71, s72, s73, s74, s75, s76, s77, s78, s79, s80, s81, s82, s83, s84, s85, s86, s87, s88, s89, s90, s91, s92, s93, s94, s95, s96, s97, s98, s99, s100, s101, s102, s103, s104, s105, s106, s107, s108, s109, s110, s111, s112, s113, s114, s115, s116, s117, s118], []⟩ w := by
  have hKr' := Lib.hid hKr
  have hKe' := Lib.hid hKe
  clear hKr hKe
  have hmm : m.length ≤ 24 := by have := hgd.len; simpa using this
  refine wp_loop (fun a w' => ∃ (j : Nat) (f : Nat → Value), j ≤ m.length ∧ a = ⟨#[s0, s1, .bool cp, s3, s4, s5, .pointer (some ⟨g6, 0, none⟩), s7, .pointer (some ⟨g8, 0, none⟩), s9, s10, (f 11), (f 12), (f 13), s14, s15, s16, s17, s18, s19, s20, s21, s22, s23, s24, s25, s26, s27, s28, s29, s30, s31, s32, s33, s34, s35, s36, s37, s38, s39, s40, s41, s42, s43, s44, s45, s46, .slice A2 m.length c2, .int .i64 (m.length : Nat), .int .i64 (j : Nat), (f 50), (f 51), (f 52), (f 53), (f 54), (f 55), (f 56), (f 57), (f 58), (f 59), (f 60), (f 61), (f 62), (f 63), (f 64), (f 65), (f 66), (f 67), (f 68), (f 69), (f 70), (f 71), (f 72), (f 73), (f 74), (f 75), (f 76), (f 77), (f 78), (f 79), (f 80), (f 81), (f 82), (f 83), (f 84), (f 85), (f 86), (f 87), (f 88), (f 89), (f 90), (f 91), (f 92), (f 93), (f 94), (f 95), (f 96), (f 97), (f 98), (f 99), (f 100), (f 101), (f 102), (f 103), (f 104), (f 105), (f 106), (f 107), (f 108), (f 109), s110, s111, s112, s113, s114, s115, s116, s117, s118], []⟩ ∧ Below w.heap.size w w' ∧ ∀ i (_ : i < j) (h2 : i < m.length), scanUAt X cp m[i].kv = 0) (fun a _ => m.length - (intOf (a.tmps.getD 49 undef)).toNat) ?_ ?_
  · exact ⟨0, fun i => ([s11, s12, s13, s50, s51, s52, s53, s54, s55, s56, s57, s58, s59, s60, s61, s62, s63, s64, s65, s66, s67, s68, s69, s70, s71, s72, s73, s74, s75, s76, s77, s78, s79, s80, s81, s82, s83, s84, s85, s86, s87, s88, s89, s90, s91, s92, s93, s94, s95, s96, s97, s98, s99, s100, s101, s102, s103, s104, s105, s106, s107, s108, s109][[11, 12, 13, 50, 51, 52, 53, 54, 55, 56, 57, 58, 59, 60, 61, 62, 63, 64, 65, 66, 67, 68, 69, 70, 71, 72, 73, 74, 75, 76, 77, 78, 79, 80, 81, 82, 83, 84, 85, 86, 87, 88, 89, 90, 91, 92, 93, 94, 95, 96, 97, 98, 99, 100, 101, 102, 103, 104, 105, 106, 107, 108, 109].idxOf i]?).getD undef, by omega, rfl, Below.refl _ _, fun i hi => absurd hi (by omega)⟩
  · rintro a w' ⟨j, f, hj, rfl, hb, hal⟩
    by_cases hn : j = m.length
    · subst hn
      refine tu_end _ cp A2 m.length c2 g6 g8 _ _ _ _ _ _ _ _ _ _ _ _ _ _ _ _ _ _ _ _ _ _ _ _ _ _ _ _ _ _ _ _ _ _ _ _ _ _ _ _ _ _ _ _ _ _ _ _ _ _ _ _ _ _ _ _ _ _ _ _ _ _ _ _ _ _ _ _ _ _ _ _ _ _ _ _ _ _ _ _ _ _ _ _ _ _ _ _ _ _ _ _ _ _ _ _ _ _ _ _ _ _ _ _ _ _ _ _ _ _ _ _ _ w' ?_
      intro t50
      refine hKe'.out (f 11) (f 12) (f 13) t50 (f 51) (f 52) (f 53) (f 54) (f 55) (f 56) (f 57) (f 58) (f 59) (f 60) (f 61) (f 62) (f 63) (f 64) (f 65) (f 66) (f 67) (f 68) (f 69) (f 70) (f 71) (f 72) (f 73) (f 74) (f 75) (f 76) (f 77) (f 78) (f 79) (f 80) (f 81) (f 82) (f 83) (f 84) (f 85) (f 86) (f 87) (f 88) (f 89) (f 90) (f 91) (f 92) (f 93) (f 94) (f 95) (f 96) (f 97) (f 98) (f 99) (f 100) (f 101) (f 102) (f 103) (f 104) (f 105) (f 106) (f 107) (f 108) (f 109) w' hb ?_
      exact scanG_all _ fun i hi => by
        simp at hi
        rw [List.getElem_map]
        exact hal i hi hi
    · have hjl : j < m.length := by omega
      have hA' := hA.step hb
      obtain ⟨ad, rfl, hbl, q1, q2⟩ := hA'.at_ hjl
      obtain ⟨b1, b2, b3⟩ := hA'.body _ (List.getElem_mem hjl)
      have hkd := hgd.kind _ (List.mem_map.2 ⟨_, List.getElem_mem hjl, rfl⟩)
      have hft := hgd.fits _ (List.mem_map.2 ⟨_, List.getElem_mem hjl, rfl⟩)
      have hst : ∀ z : Int, z ≠ 0 → scanUAt X cp (m[j].kind, m[j].body) = z → scanG (scanUAt X cp) (m.map At.kv) = z := fun z hz h0 =>
        scanG_stop hz j _ (by simpa using hjl) (fun i hi => by rw [List.getElem_map]; exact hal i hi (by omega)) (by rw [List.getElem_map]; exact h0)
      have hgo : scanUAt X cp (m[j].kind, m[j].body) = 0 → ∀ i (_ : i < j + 1) (h2 : i < m.length), scanUAt X cp m[i].kv = 0 := fun hx i hi h1 => by
        rcases Nat.lt_or_ge i j with h3 | h3
        · exact hal i h3 h1
        · obtain rfl : i = j := by omega
          exact hx
      unfold At.kv at hkd hft
      generalize m[j] = x at *
      obtain ⟨xk, xA, xc, xb⟩ := x
      simp only at q1 q2 b1 b2 b3 hkd hft hst hgo
      obtain ⟨n, rfl⟩ : ∃ n : Nat, xk = (n : Int) := ⟨xk.toNat, by omega⟩
      unfold scanUAt at hst hgo
      simp only [Int.toNat_natCast] at hst hgo
      refine tu_body _ cp X ad xA xb j m.length c2 xc n g6 g8 (headB xb) _ _ _ _ _ _ _ _ _ _ _ _ _ _ _ _ _ _ _ _ _ _ _ _ _ _ _ _ _ _ _ _ _ _ _ _ _ _ _ _ _ _ _ _ _ _ _ _ _ _ _ _ _ _ _ _ _ _ _ _ _ _ _ _ _ _ _ _ _ _ _ _ _ _ _ _ _ _ _ _ _ _ _ _ _ _ _ _ _ _ _ _ _ _ _ _ _ _ _ _ _ _ _ _ _ _ _ _ _ _ _ _ _ w' hjl (by omega) (by omega) (row_below hr hb hr.lt) (hX.step hb) q1 q2 b1 hbl hg (by omega) (fun h4 => ?_) ?_ ?_
      · obtain ⟨y, hy, hy1⟩ := fits_one (by omega) hft
        subst hy
        exact ⟨by simpa [headB] using hy1, by simp [headB]⟩
      · intro t11 t12 t13 t50 t51 t52 t53 t54 t55 t56 t57 t58 t59 t60 t61 t62 t63 t64 t65 t66 t67 t68 t69 t70 t71 t72 t73 t74 t75 t76 t77 t78 t79 t80 t81 t82 t83 t84 t85 t86 t87 t88 t89 t90 t91 t92 t93 t94 t95 t96 t97 t98 t99 t100 t101 t102 t103 t104 t105 t106 t107 t108 t109 z w2 hb2 hz
        refine hKr'.out t11 t12 t13 t50 t51 t52 t53 t54 t55 t56 t57 t58 t59 t60 t61 t62 t63 t64 t65 t66 t67 t68 t69 t70 t71 t72 t73 t74 t75 t76 t77 t78 t79 t80 t81 t82 t83 t84 t85 t86 t87 t88 t89 t90 t91 t92 t93 t94 t95 t96 t97 t98 t99 t100 t101 t102 t103 t104 t105 t106 t107 t108 t109 _ z w2 (below_step hb2 hb (Nat.le_refl _)) ?_ ?_
        · rcases hz with ⟨rfl, -⟩ | ⟨rfl, -⟩ <;> omega
        · rcases hz with ⟨rfl, hh⟩ | ⟨rfl, hh, hbd⟩
          · exact hst 13 (by omega) (by rw [if_pos hh])
          · exact hst 12 (by omega) (by rw [if_neg (by simp [hh]), if_pos hbd])
      · intro t11 t12 t13 t50 t51 t52 t53 t54 t55 t56 t57 t58 t59 t60 t61 t62 t63 t64 t65 t66 t67 t68 t69 t70 t71 t72 t73 t74 t75 t76 t77 t78 t79 t80 t81 t82 t83 t84 t85 t86 t87 t88 t89 t90 t91 t92 t93 t94 t95 t96 t97 t98 t99 t100 t101 t102 t103 t104 t105 t106 t107 t108 t109 w2 hb2 hh hbd
        refine ⟨⟨j + 1, fun i => ([t11, t12, t13, t50, t51, t52, t53, t54, t55, t56, t57, t58, t59, t60, t61, t62, t63, t64, t65, t66, t67, t68, t69, t70, t71, t72, t73, t74, t75, t76, t77, t78, t79, t80, t81, t82, t83, t84, t85, t86, t87, t88, t89, t90, t91, t92, t93, t94, t95, t96, t97, t98, t99, t100, t101, t102, t103, t104, t105, t106, t107, t108, t109][[11, 12, 13, 50, 51, 52, 53, 54, 55, 56, 57, 58, 59, 60, 61, 62, 63, 64, 65, 66, 67, 68, 69, 70, 71, 72, 73, 74, 75, 76, 77, 78, 79, 80, 81, 82, 83, 84, 85, 86, 87, 88, 89, 90, 91, 92, 93, 94, 95, 96, 97, 98, 99, 100, 101, 102, 103, 104, 105, 106, 107, 108, 109].idxOf i]?).getD undef, by omega, ?_, below_step hb2 hb (Nat.le_refl _), hgo (by rw [if_neg (by simp [hh]), if_neg (by simp [hbd])])⟩, ?_⟩
        · rw [show ((j + 1 : Nat) : Int) = (j : Int) + 1 from by omega]; rfl
        · simp [intOf]; omega
end Go.Proofs.Ytdlmamnnamlleaa
