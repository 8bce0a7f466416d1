/- The contract of Least of the package tune: the lesser value of each two; all memory that stood before is left as it was. -/
import Derived.Test.YtgjajliiichfmaaT3
namespace Go.Proofs.Ytgjajliiichfmaa
open Go.RowKit
attribute [local go_sem] cell_over frozen_over lt_over le_over ne_over over_ne cell_set_same softAt softUpon index_row

/-- The lesser one. -/
def mn (x y : Int) : Int := if y < x then y else x
def lmid (a b c d a' b' c' d' : Int) (k : Nat) : Obj := row42 (if 0 < k then mn a a' else a) (if 1 < k then mn b b' else b) (if 2 < k then mn c c' else c) (if 3 < k then mn d d' else d)

set_option maxHeartbeats 2000000 in
theorem least_any (a b c d a' b' c' d' : Int) (w : World) : Calls Try.prog 9 #[.agg #[.int .i64 a, .int .i64 b, .int .i64 c, .int .i64 d], .agg #[.int .i64 a', .int .i64 b', .int .i64 c', .int .i64 d']] w fun e w' => e = .returned (.agg #[.int .i64 (mn a a'), .int .i64 (mn b b'), .int .i64 (mn c c'), .int .i64 (mn d d')]) ∧ Below w.heap.size w w' := by
  have R1 := Lib.hid (row_any a b c d)
  have R2 := Lib.hid (row_any a' b' c' d')
  have V := Lib.hid (values_any (mn a a') (mn b b') (mn c c') (mn d d'))
  go_enter Try.func9, Try.ntmps9
  go_wp2_with (first
    | ((with_reducible refine (R1.out _).mono ?_); rintro e w1 ⟨rfl, hb⟩;
        have h3 := blk_grow hb (blk_old (blk_new (n := w.heap.size + 1) (by simp))); have h4 := blk_grow hb (blk_new (n := w.heap.size + 1 + 1) (by simp)); have B1 := bt (bta (bta (bta (Below.refl _ _) _) _) _) hb; clear hb; generalize hp1 : w.heap.size = p1 at h3 h4 ⊢; obtain ⟨a0, a1, a2, a3, a4, a5, a6, a7, a8⟩ := cells4 h3)
    | ((with_reducible refine (R2.out _).mono ?_); rintro e w2 ⟨rfl, hb⟩;
        have q4 := blk_lt h4; replace h4 := blk_grow hb (blk_old h4); have h5 := blk_grow hb (blk_new rfl); have B2 := bt (bta B1 _) hb; clear hb B1 h3 a0 a1 a2 a3 a4 a5 a6 a7 a8; generalize w1.heap.size = p5 at *))
  subst hp1
  go_loopw [12] (fun i wr => ∃ k : Nat, k ≤ 4 ∧ i = .int .i64 k ∧ Below w.heap.size w wr ∧ wr.heap[p5]? = some (lmid a b c d a' b' c' d' k) ∧ wr.heap[w.heap.size + 1 + 1]? = some (.cells #[.int .i64 0, .int .i64 0, .int .i64 0, .int .i64 0] 24 (0, 0)))
    (fun i _ => 4 - (intOf i).toNat)
  case atStart => exact ⟨0, by omega, rfl, B2, h5, h4⟩
  case round =>
    obtain ⟨k, hk, rfl, hb, g5, g4⟩ := hrel
    by_cases hlt : k < 4
    · have hk4 : k = 0 ∨ k = 1 ∨ k = 2 ∨ k = 3 := by omega
      rcases hk4 with rfl | rfl | rfl | rfl
      all_goals unfold lmid at g5
      all_goals unfold row42 at g5
      all_goals simp only [Nat.lt_irrefl, if_false, if_true, Nat.not_lt_zero, Nat.zero_lt_one, show ¬ (3 : Nat) < 2 from by decide, show ¬ (3 : Nat) < 1 from by decide, show ¬ (2 : Nat) < 1 from by decide, show (1 : Nat) < 2 from by decide, show (0 : Nat) < 2 from by decide] at g5
      all_goals obtain ⟨a0, a1, a2, a3, a4, a5, a6, a7, a8⟩ := cells4 g5
      all_goals have f0 := blk_free g5 0
      all_goals have f1 := blk_free g5 1
      all_goals have f2 := blk_free g5 2
      all_goals have f3 := blk_free g5 3
      all_goals go_wp2
      all_goals first
        | exact ⟨⟨1, by decide, rfl, bst hb (by dsimp only; omega) _, (blk_set g5 0 _).trans rfl, (blk_far (by dsimp only; omega)).trans g4⟩, by simp [intOf]⟩
        | exact ⟨⟨2, by decide, rfl, bst hb (by dsimp only; omega) _, (blk_set g5 1 _).trans rfl, (blk_far (by dsimp only; omega)).trans g4⟩, by simp [intOf]⟩
        | exact ⟨⟨3, by decide, rfl, bst hb (by dsimp only; omega) _, (blk_set g5 2 _).trans rfl, (blk_far (by dsimp only; omega)).trans g4⟩, by simp [intOf]⟩
        | exact ⟨⟨4, by decide, rfl, bst hb (by dsimp only; omega) _, (blk_set g5 3 _).trans rfl, (blk_far (by dsimp only; omega)).trans g4⟩, by simp [intOf]⟩
    · obtain rfl : k = 4 := by omega
      unfold lmid row42 at g5
      simp only [show (0 : Nat) < 4 from by decide, show (1 : Nat) < 4 from by decide, show (2 : Nat) < 4 from by decide, show (3 : Nat) < 4 from by decide, if_true] at g5
      obtain ⟨a0, a1, a2, a3, a4, a5, a6, a7, a8⟩ := cells4 g5
      go_wp2_with (first
        | ((with_reducible refine (V.out _).mono ?_); rintro e w3 ⟨rfl, hc⟩;
            replace hb := bt hb hc; replace g4 := blk_grow hc g4; clear hc g5 a0 a1 a2 a3 a4 a5 a6 a7 a8; obtain ⟨a0, a1, a2, a3, a4, a5, a6, a7, a8⟩ := cells4 g4; have f0 := blk_free g4 0; have f1 := blk_free g4 1; have f2 := blk_free g4 2; have f3 := blk_free g4 3))
      refine bodyPost_ret (results_cell_row Try.results9 _ _ (w.heap.size + 1 + 1) 24 _ _ _ rfl (set4 g4 _ _ _ _) Try.underlying24 rfl (by kernel_rfl)) rfl ⟨rfl, bst4 hb (by omega) _ _ _ _⟩

end Go.Proofs.Ytgjajliiichfmaa
