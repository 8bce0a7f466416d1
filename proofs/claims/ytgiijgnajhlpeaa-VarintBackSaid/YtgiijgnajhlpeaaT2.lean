/- The contracts of Size of the package varint, and of Size, mark and long of the document's. -/
import Derived.Test.YtgiijgnajhlpeaaT1
namespace Go.Proofs.Ytgiijgnajhlpeaa
open Go.RowKit
attribute [local go_sem] cell_over frozen_over lt_over le_over ne_over over_ne cell_set_same softAt softUpon lightUpon heavyUpon cell_kept frozen_kept

theorem kind_any (n : Int) (w : World) : Calls Try.prog 19 #[.int .i64 n] w fun e w' => e = .returned (.int .i64 (kindN n)) ∧ Below w.heap.size w w' := by
  by_cases h : n < 0 ∨ 4611686018427387903 < n
  · have : kindN n = -1 := by unfold kindN; rw [if_pos h]
    rw [this]
    exact kind_none n w h
  · obtain ⟨m, rfl⟩ : ∃ m : Nat, n = m := ⟨n.toNat, by omega⟩
    exact kind_some m w (by omega)
theorem kind_cases (n : Int) : (kindN n = -1 ∧ sizeN n = 0) ∨ (kindN n = 0 ∧ sizeN n = 1) ∨ (kindN n = 1 ∧ sizeN n = 2) ∨ (kindN n = 2 ∧ sizeN n = 4) ∨ (kindN n = 3 ∧ sizeN n = 8) := by
  unfold kindN sizeN
  by_cases h : n < 0 ∨ 4611686018427387903 < n
  · rw [if_pos h, if_pos h]; exact .inl ⟨rfl, rfl⟩
  · rw [if_neg h, if_neg h]
    by_cases h1 : n < 64
    · rw [if_pos h1, if_pos h1]; exact .inr (.inl ⟨rfl, rfl⟩)
    · rw [if_neg h1, if_neg h1]
      by_cases h2 : n < 16384
      · rw [if_pos h2, if_pos h2]; exact .inr (.inr (.inl ⟨rfl, rfl⟩))
      · rw [if_neg h2, if_neg h2]
        by_cases h3 : n < 1073741824
        · rw [if_pos h3, if_pos h3]; exact .inr (.inr (.inr (.inl ⟨rfl, rfl⟩)))
        · rw [if_neg h3, if_neg h3]; exact .inr (.inr (.inr (.inr ⟨rfl, rfl⟩)))

theorem size_any (n : Int) (w : World) : Calls Try.prog 12 #[.int .i64 n] w fun e w' => e = .returned (.int .i64 (sizeN n)) ∧ Below w.heap.size w w' := by
  have K := fun W => kind_any n W
  rcases kind_cases n with ⟨h1, h2⟩ | ⟨h1, h2⟩ | ⟨h1, h2⟩ | ⟨h1, h2⟩ | ⟨h1, h2⟩
  all_goals
    rw [h1] at K
    rw [h2]
    have HK := Lib.hid K
    clear K h1 h2
    go_enter Try.func12, Try.ntmps12
    go_wp2_with (first | ((with_reducible refine (HK.out _).mono ?_); rintro e w1 ⟨rfl, hb⟩))
    go_returns
    exact ⟨rfl, hb⟩

theorem refsize_any (n : Int) (w : World) : Calls Try.prog 13 #[.int .i64 n] w fun e w' => e = .returned (.int .i64 (sizeN n)) ∧ Below w.heap.size w w' := by
  by_cases h1 : n < 0
  · have : sizeN n = 0 := by unfold sizeN; rw [if_pos (.inl h1)]
    rw [this]
    clear this
    go_enter Try.func13, Try.ntmps13
    go_wp2
    go_returns
    exact ⟨rfl, Below.refl _ _⟩
  · by_cases h2 : n > 4611686018427387903
    · have : sizeN n = 0 := by unfold sizeN; rw [if_pos (.inr h2)]
      rw [this]
      clear this
      go_enter Try.func13, Try.ntmps13
      go_wp2
      go_returns
      exact ⟨rfl, Below.refl _ _⟩
    · have hs : (n < 64 ∧ sizeN n = 1) ∨ (¬ n < 64 ∧ n < 16384 ∧ sizeN n = 2) ∨ (¬ n < 64 ∧ ¬ n < 16384 ∧ n < 1073741824 ∧ sizeN n = 4) ∨ (¬ n < 64 ∧ ¬ n < 16384 ∧ ¬ n < 1073741824 ∧ sizeN n = 8) := by
        unfold sizeN
        rw [if_neg (by omega)]
        by_cases g1 : n < 64
        · rw [if_pos g1]; exact .inl ⟨g1, rfl⟩
        · rw [if_neg g1]
          by_cases g2 : n < 16384
          · rw [if_pos g2]; exact .inr (.inl ⟨g1, g2, rfl⟩)
          · rw [if_neg g2]
            by_cases g3 : n < 1073741824
            · rw [if_pos g3]; exact .inr (.inr (.inl ⟨g1, g2, g3, rfl⟩))
            · rw [if_neg g3]; exact .inr (.inr (.inr ⟨g1, g2, g3, rfl⟩))
      rcases hs with ⟨g1, h⟩ | ⟨g1, g2, h⟩ | ⟨g1, g2, g3, h⟩ | ⟨g1, g2, g3, h⟩
      all_goals
        rw [h]
        clear h
        go_enter Try.func13, Try.ntmps13
        go_wp2
        go_returns
        exact ⟨rfl, Below.refl _ _⟩

/-- The two highest bits, as a number. -/
theorem refmark_any (k : Nat) (hk : k < 4) (w : World) : Calls Try.prog 20 #[.int .i64 ((2 ^ k : Nat) : Int)] w fun e w' => e = .returned (.int .i64 ((64 * k : Nat) : Int)) ∧ Below w.heap.size w w' := by
  have h : k = 0 ∨ k = 1 ∨ k = 2 ∨ k = 3 := by omega
  rcases h with rfl | rfl | rfl | rfl
  all_goals
    go_enter Try.func20, Try.ntmps20
    go_wp2
    go_returns
    exact ⟨rfl, Below.refl _ _⟩
/-- How many bytes a first byte tells. -/
theorem reflong_any (c : Nat) (hc : c < 256) (w : World) : Calls Try.prog 22 #[.int .u8 c] w fun e w' => e = .returned (.int .i64 ((2 ^ (c / 64) : Nat) : Int)) ∧ Below w.heap.size w w' := by
  have h : c / 64 = 0 ∨ c / 64 = 1 ∨ c / 64 = 2 ∨ c / 64 = 3 := by omega
  have e : (c : Int) / 64 = ((c / 64 : Nat) : Int) := by omega
  rcases h with h | h | h | h
  all_goals
    rw [h] at e ⊢
    clear h
    go_enter Try.func22, Try.ntmps22
    go_wp2
    go_returns
    exact ⟨rfl, Below.refl _ _⟩
end Go.Proofs.Ytgiijgnajhlpeaa
