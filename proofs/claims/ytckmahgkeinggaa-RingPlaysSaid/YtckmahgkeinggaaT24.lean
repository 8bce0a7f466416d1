/- The law RingPlays for whatever comes in. -/
import Derived.Test.YtckmahgkeinggaaT23
namespace Go.Proofs.Ytckmahgkeinggaa
open Go.RowKit Go.ChangeShapes Go.WideShapes Go.ChangeAt
attribute [local go_sem] cell_over frozen_over lt_over le_over ne_over over_ne cell_set_same softAt softUpon

set_option maxRecDepth 100000 in
theorem plays_many (w : World) (room x y : Int) (a1 : Option Addr) (n c1 : Nat) (hn : 80 < n) :
    Calls Try.prog 3 #[.int .i64 room, .slice a1 n c1, .agg #[.int .i64 x, .int .i64 y]] w fun e w' => e = .returned (.bool true) ∧ Below w.heap.size w w' := by
  have e1 : (n : Int) > 80 := by omega
  go_enter Try.func3, Try.ntmps3
  go_wp2_with (first
    | ((with_reducible refine (awake_any _).mono ?_); rintro e w2 ⟨rfl, hb⟩; have B2 := bt (bta (Below.refl _ _) _) hb; clear hb))
  go_returns
  exact ⟨rfl, B2⟩

set_option maxRecDepth 100000 in
theorem plays_none (w : World) (room x y : Int) (a1 : Option Addr) (n c1 : Nat) (hn : n ≤ 80) (hr : room < 1 ∨ 4096 < room) :
    Calls Try.prog 3 #[.int .i64 room, .slice a1 n c1, .agg #[.int .i64 x, .int .i64 y]] w fun e w' => e = .returned (.bool true) ∧ Below w.heap.size w w' := by
  have e1 : ¬ (n : Int) > 80 := by omega
  have N1 := Lib.hid (fun W => new_none W room hr)
  have N2 := Lib.hid (fun W => refnew_bad room W hr)
  unfold refV at N2
  clear hr
  rcases Nat.eq_zero_or_pos n with rfl | h0
  case' inr => have h1 : (0 : Int) < n := by omega
  all_goals go_enter Try.func3, Try.ntmps3
  all_goals go_wp2_with (first
    | ((with_reducible refine (N1.out _).mono ?_); rintro e w2 ⟨rfl, hb⟩; have B2 := bt (bta (Below.refl _ _) _) hb; clear hb)
    | ((with_reducible refine (N2.out _).mono ?_); rintro e w3 ⟨rfl, hb⟩; have B3 := bt B2 hb; clear hb))
  all_goals refine wp_loop_rounds 1 ?_
  all_goals rw [rounds_succ]
  all_goals go_wp2_with (first
    | ((with_reducible refine (awake_any _).mono ?_); rintro e w4 ⟨rfl, hb⟩; have B4 := bt (bta B3 _) hb; clear hb))
  all_goals go_returns
  all_goals exact ⟨rfl, B4⟩

theorem plays_raw {H : Type} {enc : TypeId × Value → H} {W : World} {base b1 b2 : Nat} {r1 r2 : Reach} (room : Int) (_ : (Lit.int .i64 room).wf = true)
    (v1 : Value) (d1 : DataW H) (p1 : List MemPlace) (hv1 : Value.okWide Try.prog W r1 b1 22 v1) (h1 : DataW.Trod enc Try.prog W base (fun _ => true) true 22 v1 d1 p1)
    (v2 : Value) (d2 : DataW H) (p2 : List MemPlace) (hv2 : Value.okWide Try.prog W r2 b2 23 v2) (h2 : DataW.Trod enc Try.prog W base (fun _ => true) true 23 v2 d2 p2) :
    Calls Try.prog 3 #[.int .i64 room, v1, v2] W fun e w' => e = .returned (.bool true) ∧ Below W.heap.size W w' := by
  obtain ⟨a, n, c, f, rfl, hf⟩ := acts_in hv1 h1
  obtain ⟨x, y, rfl, _, _⟩ := row2_in Try.underlying23 Try.underlying3 (by kernel_rfl) (by kernel_rfl) hv2 h2
  by_cases hn : 80 < n
  · exact plays_many W room x y a n c hn
  · by_cases hr : room < 1 ∨ 4096 < room
    · exact plays_none W room x y a n c (by omega) hr
    · obtain ⟨m, rfl⟩ : ∃ m : Nat, room = m := ⟨room.toNat, by omega⟩
      exact plays_in W m x y a n c f hf (by omega) (by omega) (by omega)
end Go.Proofs.Ytckmahgkeinggaa
