/- The contracts of the functions of the package ring at one that is not there: it has nothing and takes nothing. -/
import Derived.Test.YtckmahgkeinggaaT1
namespace Go.Proofs.Ytckmahgkeinggaa
open Go.RowKit
attribute [local go_sem] cell_over frozen_over lt_over le_over ne_over over_ne cell_set_same softAt softUpon

theorem len_nil (w : World) : Calls Try.prog 15 #[.pointer none] w fun e w' => e = .returned (.int .i64 0) ∧ Below w.heap.size w w' := by
  go_enter Try.func15, Try.ntmps15
  go_wp2
  go_returns
  exact ⟨rfl, Below.refl _ _⟩
theorem room_nil (w : World) : Calls Try.prog 16 #[.pointer none] w fun e w' => e = .returned (.int .i64 0) ∧ Below w.heap.size w w' := by
  go_enter Try.func16, Try.ntmps16
  go_wp2
  go_returns
  exact ⟨rfl, Below.refl _ _⟩
theorem total_nil (w : World) : Calls Try.prog 17 #[.pointer none] w fun e w' => e = .returned (.int .i64 0) ∧ Below w.heap.size w w' := by
  go_enter Try.func17, Try.ntmps17
  go_wp2
  go_returns
  exact ⟨rfl, Below.refl _ _⟩
theorem push_nil (a : Option Addr) (n c : Nat) (w : World) : Calls Try.prog 13 #[.pointer none, .slice a n c] w fun e w' => e = .returned (.int .i64 0) ∧ Below w.heap.size w w' := by
  rcases Nat.eq_zero_or_pos n with rfl | hn
  · go_enter Try.func13, Try.ntmps13
    go_wp2_with (first | ((with_reducible refine (room_nil _).mono ?_); rintro e w1 ⟨rfl, hb⟩))
    go_returns
    exact ⟨rfl, hb⟩
  · have h1 : (0 : Int) < n := by omega
    go_enter Try.func13, Try.ntmps13
    go_wp2_with (first | ((with_reducible refine (room_nil _).mono ?_); rintro e w1 ⟨rfl, hb⟩))
    go_returns
    exact ⟨rfl, hb⟩
theorem drop_nil (n : Int) (w : World) : Calls Try.prog 12 #[.pointer none, .int .i64 n] w fun e w' => e = .returned (.int .i64 0) ∧ Below w.heap.size w w' := by
  by_cases h1 : 0 < n
  · go_enter Try.func12, Try.ntmps12
    go_wp2_with (first | ((with_reducible refine (len_nil _).mono ?_); rintro e w1 ⟨rfl, hb⟩))
    go_returns
    exact ⟨rfl, hb⟩
  · have h2 : n < 1 := by omega
    go_enter Try.func12, Try.ntmps12
    go_wp2_with (first | ((with_reducible refine (len_nil _).mono ?_); rintro e w1 ⟨rfl, hb⟩))
    go_returns
    exact ⟨rfl, hb⟩
theorem peek_nil (f n : Int) (w : World) : Calls Try.prog 18 #[.pointer none, .int .i64 f, .int .i64 n] w fun e w' => e = .returned (.slice none 0 0) ∧ Below w.heap.size w w' := by
  have hf : f < 0 ∨ 0 < f ∨ f = 0 := by omega
  rcases hf with hf | hf | rfl
  · go_enter Try.func18, Try.ntmps18
    go_wp2
    go_returns
    exact ⟨rfl, Below.refl _ _⟩
  · have h0 : ¬ f < 0 := by omega
    go_enter Try.func18, Try.ntmps18
    go_wp2_with (first | ((with_reducible refine (len_nil _).mono ?_); rintro e w1 ⟨rfl, hb⟩))
    go_returns
    exact ⟨rfl, hb⟩
  · by_cases hn : n < 1
    · go_enter Try.func18, Try.ntmps18
      go_wp2_with (first | ((with_reducible refine (len_nil _).mono ?_); rintro e w1 ⟨rfl, hb⟩))
      go_returns
      exact ⟨rfl, hb⟩
    · have h2 : 0 < n := by omega
      go_enter Try.func18, Try.ntmps18
      go_wp2_with (first
        | ((with_reducible refine (len_nil w).mono ?_); rintro e w1 ⟨rfl, hb⟩)
        | ((with_reducible refine (len_nil _).mono ?_); rintro e w2 ⟨rfl, hb2⟩))
      go_returns
      exact ⟨rfl, bt hb hb2⟩
theorem pop_nil (n : Int) (w : World) : Calls Try.prog 10 #[.pointer none, .int .i64 n] w fun e w' => e = .returned (.slice none 0 0) ∧ Below w.heap.size w w' := by
  go_enter Try.func10, Try.ntmps10
  go_wp2_with (first
    | ((with_reducible refine (peek_nil _ _ _).mono ?_); rintro e w1 ⟨rfl, hb⟩)
    | ((with_reducible refine (drop_nil _ _).mono ?_); rintro e w2 ⟨rfl, hb2⟩))
  go_returns
  exact ⟨rfl, bt hb hb2⟩
end Go.Proofs.Ytckmahgkeinggaa
