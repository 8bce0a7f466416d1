/- The law TimerNobody: one that is not there tells nothing. -/
import Derived.Test.YtickfnedplbleaaT24
import Derived.Test.YtickfnedplbleaaT16
namespace Go.Proofs.Ytickfnedplbleaa
open Go.RowKit
attribute [local go_sem] cell_over frozen_over lt_over le_over ne_over over_ne cell_set_same softAt softUpon lightUpon heavyUpon cell_kept frozen_kept

set_option maxRecDepth 100000 in
set_option maxHeartbeats 8000000 in
theorem nobody_any (id a : Int) (w : World) : Calls Try.prog 4 #[.int .i64 id, .int .i64 a] w fun e w' => e = .returned (.bool true) ∧ Below w.heap.size w w' := by
  go_enter Try.func4, Try.ntmps4
  go_wp2_with (first
    | ((with_reducible refine (nnext_any _).mono ?_); rintro e w1 ⟨rfl, hb⟩; have B1 := Lib.hid (bta hb (.cells #[.int .i64 0, .int .i64 0] 43 (0, 0))); clear hb)
    | ((with_reducible refine (nwhen_any _ _).mono ?_); rintro e w2 ⟨rfl, hb⟩; have B2 := Lib.hid (bt B1.out hb); clear hb)
    | ((with_reducible refine (nset_any _ _ _).mono ?_); rintro e w3 ⟨rfl, hb⟩; have B3 := Lib.hid (bt B2.out hb); clear hb)
    | ((with_reducible refine (nstop_any _ _).mono ?_); rintro e w4 ⟨rfl, hb⟩; have B4 := Lib.hid (bt B3.out hb); clear hb)
    | ((with_reducible refine (ndue_any _ _).mono ?_); rintro e w5 ⟨rfl, hb⟩; have B5 := Lib.hid (bt B4.out hb); clear hb)
    | ((with_reducible refine (nlen_any _).mono ?_); rintro e w6 ⟨rfl, hb⟩; have B6 := Lib.hid (bt B5.out hb); clear hb)
    | ((with_reducible refine (nlist_any _).mono ?_); rintro e w7 ⟨rfl, hb⟩; have B7 := Lib.hid (bt B6.out hb); clear hb)
    | ((with_reducible refine (awake_any _).mono ?_); rintro e w8 ⟨rfl, hb⟩; have B8 := Lib.hid (bt B7.out hb); clear hb))
  go_returns
  exact ⟨rfl, B8.out⟩
theorem nobody_raw {W : World} (id : Int) (_ : (Lit.int .i64 id).wf = true) (a : Int) (_ : (Lit.int .i64 a).wf = true) : Calls Try.prog 4 #[.int .i64 id, .int .i64 a] W fun e w' => e = .returned (.bool true) ∧ Below W.heap.size W w' := nobody_any id a W
end Go.Proofs.Ytickfnedplbleaa
