/- The law RingNobody: true, whatever the input. -/
import Derived.Test.YtckmahgkeinggaaT7
import Derived.Lib.SmallJoins
import Derived.ProofKit
import Derived.OpenShut
namespace Go.Proofs.Ytckmahgkeinggaa
open Go.RowKit Go.ChangeShapes Go.WideShapes Go.ChangeAt
attribute [local go_sem] cell_over frozen_over lt_over le_over ne_over over_ne cell_set_same softAt softUpon

set_option maxRecDepth 100000 in
set_option maxHeartbeats 4000000 in
theorem nobody_any (a : Option Addr) (len cap : Nat) (n m : Int) (w : World) : Calls Try.prog 4 #[.slice a len cap, .int .i64 n, .int .i64 m] w fun e w' => e = .returned (.bool true) ∧ Below w.heap.size w w' := by
  go_enter Try.func4, Try.ntmps4
  go_wp2_with (first
    | ((with_reducible refine (push_nil _ _ _ _).mono ?_); rintro e w1 ⟨rfl, B1⟩)
    | ((with_reducible refine (pop_nil _ _).mono ?_); rintro e w2 ⟨rfl, hb⟩; have B2 := bt B1 hb; clear hb)
    | ((with_reducible refine (peek_nil _ _ _).mono ?_); rintro e w3 ⟨rfl, hb⟩; have B3 := bt B2 hb; clear hb)
    | ((with_reducible refine (drop_nil _ _).mono ?_); rintro e w4 ⟨rfl, hb⟩; have B4 := bt B3 hb; clear hb)
    | ((with_reducible refine (len_nil _).mono ?_); rintro e w5 ⟨rfl, hb⟩; have B5 := bt B4 hb; clear hb)
    | ((with_reducible refine (room_nil _).mono ?_); rintro e w6 ⟨rfl, hb⟩; have B6 := bt B5 hb; clear hb)
    | ((with_reducible refine (total_nil _).mono ?_); rintro e w7 ⟨rfl, hb⟩; have B7 := bt B6 hb; clear hb)
    | ((with_reducible refine (awake_any _).mono ?_); rintro e w8 ⟨rfl, hb⟩; have B8 := bt B7 hb; clear hb))
  go_returns
  exact ⟨rfl, B8⟩

theorem nobody_raw {H : Type} {enc : TypeId × Value → H} {W : World} {base b0 : Nat} {r : Reach} (v0 : Value) (d0 : DataW H) (p0 : List MemPlace) (hv0 : Value.okWide Try.prog W r b0 33 v0) (_ : DataW.Trod enc Try.prog W base (fun _ => true) true 33 v0 d0 p0)
    (n : Int) (_ : (Lit.int .i64 n).wf = true) (m : Int) (_ : (Lit.int .i64 m).wf = true) :
    Calls Try.prog 4 #[v0, .int .i64 n, .int .i64 m] W fun e w' => e = .returned (.bool true) ∧ Below W.heap.size W w' := by
  obtain ⟨a0, len0, cap0, rfl⟩ := okWide_slice Try.underlying33 hv0
  exact nobody_any a0 len0 cap0 n m W
end Go.Proofs.Ytckmahgkeinggaa
