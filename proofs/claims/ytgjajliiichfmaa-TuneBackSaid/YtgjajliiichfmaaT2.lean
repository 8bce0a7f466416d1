/- The contracts of bent and Check of the package tune; each leaves all memory that stood before as it was. -/
import Derived.Test.YtgjajliiichfmaaT1
namespace Go.Proofs.Ytgjajliiichfmaa
open Go.RowKit
attribute [local go_sem] cell_over frozen_over lt_over le_over ne_over over_ne cell_set_same softAt softUpon

/-- An element of a row by value. -/
theorem index_row (x0 x1 x2 x3 : Value) (k : IntKind) (i : Int) (w : World) (h0 : 0 ≤ i) (h1 : i < 4) : (Instr.index 42 (.agg #[x0, x1, x2, x3]) (.int k i)).run Try.prog w = .ok (#[x0, x1, x2, x3].getD i.toNat undef) w := by
  have h : i = 0 ∨ i = 1 ∨ i = 2 ∨ i = 3 := by omega
  rcases h with rfl | rfl | rfl | rfl <;> simp [Instr.index, run_underlying Try.underlying42, asIntOf, go_sem]
attribute [local go_sem] index_row

/-- One value, where it may be. -/
def cl (lo hi x : Int) : Int := if lo < (if hi < x then hi else x) then (if hi < x then hi else x) else lo
def row42 (a b c d : Int) : Obj := .cells #[.int .i64 a, .int .i64 b, .int .i64 c, .int .i64 d] 42 (0, 0)
/-- The row in round k. -/
def mid (a b c d : Int) (k : Nat) : Obj := row42 (if 0 < k then cl 0 8 a else a) (if 1 < k then cl 1 4096 b else b) (if 2 < k then cl 1 1048576 c else c) (if 3 < k then cl 1 32 d else d)

set_option maxHeartbeats 2000000 in
theorem bent_any (a b c d : Int) (w : World) : Calls Try.prog 13 #[.agg #[.int .i64 a, .int .i64 b, .int .i64 c, .int .i64 d]] w fun e w' => e = .returned (.agg #[.int .i64 (cl 0 8 a), .int .i64 (cl 1 4096 b), .int .i64 (cl 1 1048576 c), .int .i64 (cl 1 32 d)]) ∧ Below w.heap.size w w' := by
  go_enter Try.func13, Try.ntmps13
  go_wp2_with (first
    | ((with_reducible refine (ends_any _).mono ?_); rintro e w1 ⟨rfl, hb⟩;
        have h1 := blk_grow hb (blk_old (blk_new rfl)); have h2 := blk_grow hb (blk_new (n := w.heap.size + 1) (by simp)); have B1 := bt (bta (bta (Below.refl _ _) _) _) hb; clear hb; generalize hp1 : w.heap.size = p1 at h1 h2 ⊢; obtain ⟨a0, a1, a2, a3, a4, a5, a6, a7, a8⟩ := cells4 h1))
  have l12 := blk_lt h2
  replace h1 := blk_old (o := row42 8 4096 1048576 32) (blk_old (o := row42 0 1 1 1) h1)
  replace h2 := blk_old (o := row42 8 4096 1048576 32) (blk_old (o := row42 0 1 1 1) h2)
  have h3 := blk_old (o := row42 8 4096 1048576 32) (blk_new (w := w1) (o := row42 0 1 1 1) rfl)
  have h4 := blk_new (w := w1.alloc (row42 0 1 1 1)) (o := row42 8 4096 1048576 32) (n := w1.heap.size + 1) (by simp)
  have B2 := bta (bta B1 (row42 0 1 1 1)) (row42 8 4096 1048576 32)
  generalize hp3 : w1.heap.size = p3 at l12 h3 h4 a4 a5 a6 a7 a8 ⊢
  unfold row42 at *
  generalize (w1.alloc (.cells #[.int .i64 0, .int .i64 1, .int .i64 1, .int .i64 1] 42)).alloc (.cells #[.int .i64 8, .int .i64 4096, .int .i64 1048576, .int .i64 32] 42) = w2 at *
  clear a0 a1 a2 a3 a4 a5 a6 a7 a8 B1 hp3
  subst hp1
  go_loopw [12] (fun i wr => ∃ k : Nat, k ≤ 4 ∧ i = .int .i64 k ∧ Below w.heap.size w wr ∧ wr.heap[w.heap.size]? = some (mid a b c d k) ∧ wr.heap[w.heap.size + 1]? = some (row42 0 0 0 0) ∧ wr.heap[p3]? = some (row42 0 1 1 1) ∧ wr.heap[p3 + 1]? = some (row42 8 4096 1048576 32))
    (fun i _ => 4 - (intOf i).toNat)
  case atStart => exact ⟨0, by omega, rfl, B2, h1, h2, h3, h4⟩
  case round =>
    obtain ⟨k, hk, rfl, hb, g1, g2, g3, g4⟩ := hrel
    by_cases hlt : k < 4
    · have hk4 : k = 0 ∨ k = 1 ∨ k = 2 ∨ k = 3 := by omega
      rcases hk4 with rfl | rfl | rfl | rfl
      all_goals unfold mid at g1
      all_goals unfold row42 at g1 g2 g3 g4
      all_goals simp only [Nat.lt_irrefl, if_false, if_true, Nat.zero_add, Nat.not_lt_zero, Nat.zero_lt_one, show ¬ (3 : Nat) < 2 from by decide, show ¬ (3 : Nat) < 1 from by decide, show ¬ (2 : Nat) < 1 from by decide, show (1 : Nat) < 2 from by decide, show (0 : Nat) < 2 from by decide] at g1
      all_goals obtain ⟨a0, a1, a2, a3, a4, a5, a6, a7, a8⟩ := cells4 g1
      all_goals obtain ⟨b0, b1, b2, b3, b4, b5, b6, b7, b8⟩ := cells4 g3
      all_goals obtain ⟨c0, c1, c2, c3, c4, c5, c6, c7, c8⟩ := cells4 g4
      all_goals have f0 := blk_free g1 0
      all_goals have f1 := blk_free g1 1
      all_goals have f2 := blk_free g1 2
      all_goals have f3 := blk_free g1 3
      all_goals go_wp2
      all_goals refine wp_soft0 11 (by kernel_rfl) (by kernel_rfl) (tail_seq (by kernel_rfl)) ?_
      all_goals simp only [List.take_succ_cons, List.take_zero]
      all_goals repeat (refine softLex_step (by rfl) (by rfl) (fun K hK => ?_); go_simp; (refine hK _ ?_; clear hK K))
      all_goals refine softLex_nil ?_
      all_goals intro w5 hb5
      all_goals replace g1 := blk_grow hb5 g1
      all_goals replace g2 := blk_grow hb5 g2
      all_goals replace g3 := blk_grow hb5 g3
      all_goals replace g4 := blk_grow hb5 g4
      all_goals replace hb := bt hb hb5
      all_goals clear hb5 a0 a1 a2 a3 a4 a5 a6 a7 a8 b0 b1 b2 b3 b4 b5 b6 b7 b8 c0 c1 c2 c3 c4 c5 c6 c7 c8 f0 f1 f2 f3
      all_goals obtain ⟨a0, a1, a2, a3, a4, a5, a6, a7, a8⟩ := cells4 g1
      all_goals have f0 := blk_free g1 0
      all_goals have f1 := blk_free g1 1
      all_goals have f2 := blk_free g1 2
      all_goals have f3 := blk_free g1 3
      all_goals simp only [List.drop_succ_cons, List.drop_zero]
      all_goals go_wp2
      all_goals go_roundw
      all_goals first
        | exact ⟨1, by decide, rfl, bst hb (Nat.le_refl _) _, (blk_set g1 0 _).trans rfl, (blk_far (by simp)).trans g2, (blk_far (by dsimp only; omega)).trans g3, (blk_far (by dsimp only; omega)).trans g4⟩
        | exact ⟨2, by decide, rfl, bst hb (Nat.le_refl _) _, (blk_set g1 1 _).trans rfl, (blk_far (by simp)).trans g2, (blk_far (by dsimp only; omega)).trans g3, (blk_far (by dsimp only; omega)).trans g4⟩
        | exact ⟨3, by decide, rfl, bst hb (Nat.le_refl _) _, (blk_set g1 2 _).trans rfl, (blk_far (by simp)).trans g2, (blk_far (by dsimp only; omega)).trans g3, (blk_far (by dsimp only; omega)).trans g4⟩
        | exact ⟨4, by decide, rfl, bst hb (Nat.le_refl _) _, (blk_set g1 3 _).trans rfl, (blk_far (by simp)).trans g2, (blk_far (by dsimp only; omega)).trans g3, (blk_far (by dsimp only; omega)).trans g4⟩
        | (simp [intOf]; done)
        | skip
    · obtain rfl : k = 4 := by omega
      unfold mid row42 at g1
      unfold row42 at g2
      obtain ⟨a0, a1, a2, a3, a4, a5, a6, a7, a8⟩ := cells4 g1
      obtain ⟨b0, b1, b2, b3, b4, b5, b6, b7, b8⟩ := cells4 g2
      simp only [show (0 : Nat) < 4 from by decide, show (1 : Nat) < 4 from by decide, show (2 : Nat) < 4 from by decide, show (3 : Nat) < 4 from by decide, if_true] at a0 a1 a2 a3
      have f0 := blk_free g2 0
      have f1 := blk_free g2 1
      have f2 := blk_free g2 2
      have f3 := blk_free g2 3
      go_wp2
      refine bodyPost_ret (results_cell_row Try.results13 _ _ (w.heap.size + 1) 42 _ _ _ rfl (blk_set (blk_set (blk_set (blk_set g2 0 _) 1 _) 2 _) 3 _) Try.underlying42 rfl (by kernel_rfl)) rfl ⟨rfl, bst (bst (bst (bst hb (by simp) _) (by simp) _) (by simp) _) (by simp) _⟩

/-- Values that may be. -/
def okT (a b c d : Int) : Prop := (0 ≤ a ∧ a ≤ 8) ∧ (1 ≤ b ∧ b ≤ 4096) ∧ (1 ≤ c ∧ c ≤ 1048576) ∧ 1 ≤ d ∧ d ≤ 32
instance (a b c d : Int) : Decidable (okT a b c d) := by unfold okT; infer_instance
theorem cl_eq {lo hi x : Int} (h : lo ≤ hi) : x = cl lo hi x ↔ lo ≤ x ∧ x ≤ hi := by
  unfold cl
  constructor
  · intro e
    split at e <;> split at e <;> omega
  · intro e
    repeat (first | (rw [if_pos (by omega)]) | (rw [if_neg (by omega)]))
    try (split <;> omega)
theorem okT_row (a b c d : Int) : okT a b c d ↔ (a = cl 0 8 a ∧ b = cl 1 4096 b ∧ c = cl 1 1048576 c ∧ d = cl 1 32 d) := by
  rw [cl_eq (by decide), cl_eq (by decide), cl_eq (by decide), cl_eq (by decide)]
  rfl

end Go.Proofs.Ytgjajliiichfmaa
