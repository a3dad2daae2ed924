/- Package store: Drop, DropOf. -/
import Derived.Test.YtakooljbkjnilaaSt7
import Derived.Test.YtakooljbkjnilaaLg2
namespace Go.Proofs.Ytakooljbkjnilaa
open Go.ChangeShapes Go.WideShapes Go.ChangeAt Go.RowKit
set_option maxHeartbeats 1000000
set_option maxRecDepth 100000
attribute [local go_sem] kp_refl kp_alloc kp_setCell kp_drew kp_drewN row_new row_old rowAt_new rowAt_old

/-- A step of a store: all but its two blocks stays; what it keeps is what it kept, or lies in new memory. -/
structure StepS (g bm : Nat) (l l' : List Hd) (w w' : World) : Prop where
  but : But g bm w w'
  src : ∀ x ∈ l', x ∈ l ∨ HdOk (fun k => w.heap.size ≤ k ∧ k < w'.heap.size) w' x
theorem dropO_sub {l : List Hd} {k : Int} : ∀ x ∈ dropO l k, x ∈ l := fun _ hx => (List.mem_filter.1 hx).1
theorem store_Drop (g bm : Nat) (most next k : Int) (l : List Hd) (w : World) (h : StAt w g bm most next l) (hk : (Lit.int .i64 k).wf = true) :
    Calls Try.prog 17 #[.pointer (some ⟨g, 0, none⟩), .int .i64 k] w fun e w' => e = .returned (.int .i64 (if (findO l k).isSome then 0 else 6)) ∧ StAt w' g bm most next (dropO l k) ∧ StepS g bm l (dropO l k) w w' := by
  obtain ⟨c0, c1, c2, cf⟩ := h.c
  have hlt := h.lt
  have hr := run_look h.mp hk (t := 40) Try.underlying40 (zero_hd w)
  rw [look_hd] at hr
  have hkey := Maps.keyOf_int_mk (P := Try.prog) Try.underlying3 hk
  cases hf : findO l k with
  | none =>
    rw [hf] at hr
    have hd := Lib.hid (drop_none hf)
    simp only [Option.map_none, Option.getD_none, Option.isSome_none, hdZ] at hr
    go_enter Try.func17, Try.ntmps17
    have hb := below_alloc' w (.cells #[.int .i64 0, .int .i64 0, .slice none 0 0] 45)
    have hst := Lib.hid (h.step hb)
    go_wp2
    go_ret
    exact ⟨rfl, by rw [hd.out]; exact hst.out, But.of_below hb, fun x hx => .inl (dropO_sub x hx)⟩
  | some y =>
    rw [hf] at hr
    obtain ⟨yh, yo, yA, yc, yl⟩ := y
    simp only [Option.map_some, Option.getD_some, Option.isSome_some, Hd.val] at hr
    have hfH := Lib.hid hf
    have hb := below_alloc' w (.cells #[.int .i64 yh, .int .i64 yo, .slice yA yl.length yc] 45)
    have h1 := h.step hb
    have hown := Lib.hid h1.mp.own
    obtain ⟨d0, d1, d2, df⟩ := h1.c
    clear hf
    go_enter Try.func17, Try.ntmps17
    go_wp2_with (at_delete; refine wpList_delete_own _ rfl _ _ 40 3 rfl 45 (Maps.int_keyed Try.underlying3) Try.underlying40 RV bm _ _ rfl hown.out _ _ rfl hkey ?_; intro w2 hown2 hturn2; have h2 := h1.turn hturn2 (by rw [← del_hd]; exact h1.mp.del hown2) (fun x hx => h1.at_ x (dropO_sub x hx)); have hB := But.of_grown (g := g) hturn2.grown (.inr (.inl rfl)))
    go_ret
    exact ⟨rfl, h2, (But.of_below hb).trans hB, fun x hx => .inl (dropO_sub x hx)⟩
end Go.Proofs.Ytakooljbkjnilaa
