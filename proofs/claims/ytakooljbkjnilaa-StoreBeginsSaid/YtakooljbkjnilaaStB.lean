/- StoreBegins: the law's function. -/
import Derived.Test.YtakooljbkjnilaaSt3
import Derived.Test.YtakooljbkjnilaaArgs
namespace Go.Proofs.Ytakooljbkjnilaa
open Go.ChangeShapes Go.WideShapes Go.ChangeAt Go.RowKit
set_option maxHeartbeats 1000000
set_option maxRecDepth 100000

theorem storeBegins_all (most : Int) (w : World) :
    Calls Try.prog 3 #[.int .i64 most] w fun e w' => e = .returned (.bool true) ∧ Below w.heap.size w w' := by
  by_cases hm : most < 1 ∨ 16 < most
  · have hN := Lib.hid (store_New_no most w hm)
    by_cases h1 : most < 1
    · clear hm
      go_enter Try.func3, Try.ntmps3
      go_wp2_with (go_at_call 5; refine hN.out.mono ?_; rintro e w' ⟨rfl, rfl⟩)
      go_ret
      exact ⟨rfl, Below.refl _ _⟩
    · have h2 : 16 < most := by omega
      clear hm
      go_enter Try.func3, Try.ntmps3
      go_wp2_with (go_at_call 5; refine hN.out.mono ?_; rintro e w' ⟨rfl, rfl⟩)
      go_ret
      exact ⟨rfl, Below.refl _ _⟩
  · have h1 : ¬ most < 1 := by omega
    have h2 : ¬ 16 < most := by omega
    have hN := Lib.hid (store_New most w (by omega) (by omega))
    clear hm
    go_enter Try.func3, Try.ntmps3
    go_wp2_with (first
      | (go_at_call 5; refine hN.out.mono ?_; rintro e w1 ⟨g, bm, rfl, hS, h3, h4, hb1⟩)
      | (go_at_call 6; refine (store_Next _ _ _ _ _ _ hS).mono ?_; rintro e w' ⟨rfl, rfl⟩)
      | (go_at_call 7; refine (store_List0 _ _ _ _ _ hS).mono ?_; rintro e w2 ⟨rfl, hb2⟩))
    go_ret
    exact ⟨rfl, hb1.trans (hb2.mono hb1.size)⟩
end Go.Proofs.Ytakooljbkjnilaa
