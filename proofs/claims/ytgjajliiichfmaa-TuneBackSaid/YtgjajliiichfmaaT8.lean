/- SamePairs of two rows of the same pairs, and awake: the law's own check of its tools, which answers true. -/
import Derived.Test.YtgjajliiichfmaaT7
import Derived.Test.YtgjajliiichfmaaT4
namespace Go.Proofs.Ytgjajliiichfmaa
open Go.RowKit
attribute [local go_sem] cell_over frozen_over lt_over le_over ne_over over_ne cell_set_same softAt softUpon

theorem same_any (a1 a2 : Option Addr) (l : List (Int × Int)) (n c1 c2 : Nat) (w : World) (h1 : Prs w a1 l) (h2 : Prs w a2 l) (hn : l.length = n) (hn2 : n ≤ 1000) :
    Calls Try.prog 15 #[.slice a1 n c1, .slice a2 n c2] w fun e w' => e = .returned (.bool true) ∧ Below w.heap.size w w' := by
  have H1 := Lib.hid h1
  have H2 := Lib.hid h2
  have HC : ∀ k, k < n → ∃ p, l[k]? = some p := fun k h => ⟨l[k], List.getElem?_eq_getElem (by omega)⟩
  replace HC := Lib.hid HC
  clear h1 h2 hn
  go_enter Try.func15, Try.ntmps15
  go_wp2
  go_loopw [5] (fun i wr => ∃ k : Nat, k ≤ n ∧ i = .int .i64 k ∧ Below w.heap.size w wr)
    (fun i _ => n - (intOf i).toNat)
  case atStart => exact ⟨0, Nat.zero_le _, rfl, Below.refl _ _⟩
  case round =>
    obtain ⟨k, hk, rfl, hb⟩ := hrel
    by_cases hlt : k < n
    · obtain ⟨p, hp⟩ := HC.out k hlt
      obtain ⟨b1, o1, rfl, g1, g2⟩ := H1.out k p hp
      obtain ⟨b2, o2, rfl, g3, g4⟩ := H2.out k p hp
      have q1 := cell_below hb g1
      have q2 := cell_below hb g2
      have q3 := cell_below hb g3
      have q4 := cell_below hb g4
      have l1 := World.block_lt_of_cell? _ _ q1
      have l2 := World.block_lt_of_cell? _ _ q3
      rw [← Nat.add_assoc] at q2 q4
      have k0 : (0 : Int) ≤ (k : Int) := by omega
      have k1 : (k : Int) < (n : Int) := by omega
      have k2 : IntKind.i64.wrap (k : Int) = k := IntWalk.i64_in _ (by omega)
      clear g1 g2 g3 g4
      go_wp2
      refine wp_soft0 9 (by kernel_rfl) (by kernel_rfl) (tail_end (by kernel_rfl)) ?_
      simp only [List.take_succ_cons, List.take_zero]
      repeat (refine softLex_step (by rfl) (by rfl) (fun K hK => ?_); go_simp; (refine hK _ ?_; clear hK K))
      refine softLex_nil ?_
      intro w5 hb5
      have hb := bt hb hb5
      clear hb5 q1 q2 q3 q4
      go_wp2
      go_roundw
      case rel => exact ⟨k + 1, by omega, by go_num, hb⟩
      case measure => simp [intOf]; omega
    · obtain rfl : k = n := by omega
      go_wp2
      go_returns
      exact ⟨rfl, hb⟩

theorem prs_blk {w : World} {b : Nat} {l : List (Int × Int)} {cs : Array Value} {t : TypeId} {fz : Nat × Nat} (h : w.heap[b]? = some (.cells cs t fz)) (hc : cs.toList = prsL l) : Prs w (some ⟨b, 0, none⟩) l := by
  intro i p hi
  obtain ⟨g1, g2⟩ := prsL_get l i p hi
  rw [← hc] at g1 g2
  refine ⟨b, 0, rfl, ?_, ?_⟩
  · rw [blk_cell h]; simpa using g1
  · rw [blk_cell h]; simpa using g2

theorem aw1 (b : Nat) (w : World) (h : w.heap[b]? = some (.cells #[.int .i64 2, .int .i64 100, .int .i64 9, .int .i64 0, .int .i64 1, .int .i64 3] 39 (0, 0))) :
    Calls Try.prog 8 #[.agg #[.int .i64 8, .int .i64 256, .int .i64 4096, .int .i64 32], .slice (some ⟨b, 0, none⟩) 3 3] w fun e w' => e = .returned (.tuple #[.agg #[.int .i64 3, .int .i64 100, .int .i64 4096, .int .i64 32], .int .u32 0]) ∧ Below w.heap.size w w' :=
  apply_any (8, 256, 4096, 32) [(2, 100), (9, 0), (1, 3)] _ 3 w (prs_blk h rfl) (by decide)
theorem aw2 (b : Nat) (w : World) (h : w.heap[b]? = some (.cells #[.int .i64 3, .int .i64 0] 39 (0, 0))) :
    Calls Try.prog 8 #[.agg #[.int .i64 8, .int .i64 256, .int .i64 4096, .int .i64 32], .slice (some ⟨b, 0, none⟩) 1 1] w fun e w' => e = .returned (.tuple #[.agg #[.int .i64 0, .int .i64 0, .int .i64 0, .int .i64 0], .int .u32 3]) ∧ Below w.heap.size w w' :=
  apply_any (8, 256, 4096, 32) [(3, 0)] _ 1 w (prs_blk h rfl) (by decide)
theorem aw3 (b : Nat) (w : World) (h : w.heap[b]? = some (.cells #[.int .i64 4, .int .i64 33] 39 (0, 0))) :
    Calls Try.prog 8 #[.agg #[.int .i64 8, .int .i64 256, .int .i64 4096, .int .i64 32], .slice (some ⟨b, 0, none⟩) 1 1] w fun e w' => e = .returned (.tuple #[.agg #[.int .i64 0, .int .i64 0, .int .i64 0, .int .i64 0], .int .u32 1]) ∧ Below w.heap.size w w' :=
  apply_any (8, 256, 4096, 32) [(4, 33)] _ 1 w (prs_blk h rfl) (by decide)
theorem aw4 (w : World) :
    Calls Try.prog 8 #[.agg #[.int .i64 0, .int .i64 0, .int .i64 0, .int .i64 0], .slice none 0 0] w fun e w' => e = .returned (.tuple #[.agg #[.int .i64 0, .int .i64 0, .int .i64 0, .int .i64 0], .int .u32 2]) ∧ Below w.heap.size w w' :=
  apply_any (0, 0, 0, 0) [] none 0 w (fun i p h => by simp at h) (by decide)
theorem aw5 (w : World) : Calls Try.prog 6 #[.agg #[.int .i64 8, .int .i64 256, .int .i64 4096, .int .i64 32], .agg #[.int .i64 3, .int .i64 100, .int .i64 4096, .int .i64 32]] w fun e w' => ∃ x c, e = .returned (.slice x 2 c) ∧ Below w.heap.size w w' ∧ Prs w' x [(1, 3), (2, 100)] := by
  refine (diff_any 8 256 4096 32 3 100 4096 32 (by decide) (by decide) w).mono ?_
  rintro e w' ⟨v, rfl, hb, ho⟩
  obtain ⟨x, c, rfl, hp⟩ := own_prs ho
  exact ⟨x, c, rfl, hb, hp⟩
theorem aw6 (x : Option Addr) (c b : Nat) (w : World) (h1 : Prs w x [(1, 3), (2, 100)]) (h : w.heap[b]? = some (.cells #[.int .i64 1, .int .i64 3, .int .i64 2, .int .i64 100] 39 (0, 0))) :
    Calls Try.prog 15 #[.slice x 2 c, .slice (some ⟨b, 0, none⟩) 2 2] w fun e w' => e = .returned (.bool true) ∧ Below w.heap.size w w' :=
  same_any x _ [(1, 3), (2, 100)] 2 c 2 w h1 (prs_blk h rfl) rfl (by decide)
theorem aw7 (w : World) : Calls Try.prog 11 #[.agg #[.int .i64 8, .int .i64 256, .int .i64 4096, .int .i64 32]] w fun e w' => e = .returned (.bool true) ∧ Below w.heap.size w w' := enough_any 8 256 4096 32 w
theorem aw8 (w : World) : Calls Try.prog 11 #[.agg #[.int .i64 8, .int .i64 257, .int .i64 4096, .int .i64 1]] w fun e w' => e = .returned (.bool false) ∧ Below w.heap.size w w' := enough_any 8 257 4096 1 w
theorem aw9 (w : World) : Calls Try.prog 9 #[.agg #[.int .i64 3, .int .i64 100, .int .i64 4096, .int .i64 32], .agg #[.int .i64 5, .int .i64 50, .int .i64 9000, .int .i64 7]] w fun e w' => e = .returned (.agg #[.int .i64 3, .int .i64 50, .int .i64 4096, .int .i64 7]) ∧ Below w.heap.size w w' := least_any 3 100 4096 32 5 50 9000 7 w
theorem aw10 (w : World) : Calls Try.prog 5 #[.agg #[.int .i64 3, .int .i64 100, .int .i64 4096, .int .i64 32]] w fun e w' => e = .returned (.int .i64 0) ∧ Below w.heap.size w w' := check_any 3 100 4096 32 w
theorem aw11 (w : World) : Calls Try.prog 5 #[.agg #[.int .i64 0, .int .i64 0, .int .i64 0, .int .i64 0]] w fun e w' => e = .returned (.int .i64 8) ∧ Below w.heap.size w w' := check_any 0 0 0 0 w
theorem aw12 (w : World) : Calls Try.prog 10 #[.agg #[.int .i64 8, .int .i64 256, .int .i64 4096, .int .i64 32]] w fun e w' => ∃ x c', e = .returned (.slice x 4 c') ∧ Below w.heap.size w w' := by
  refine (pairs_open 8 256 4096 32 w).mono ?_
  rintro e w' ⟨x, c, rfl, hb, _⟩
  exact ⟨x, c, rfl, hb⟩

set_option maxRecDepth 100000 in
set_option maxHeartbeats 4000000 in
theorem awake_any (w : World) : Calls Try.prog 7 #[] w fun e w' => e = .returned (.bool true) ∧ Below w.heap.size w w' := by
  go_enter Try.func7, Try.ntmps7
  go_wp2_with (first
    | ((with_reducible refine (first_any _).mono ?_); rintro e w1 ⟨rfl, B1⟩)
    | ((with_reducible refine (aw1 _ _ ?_).mono ?_); (exact blk_new (by simp)); rintro e w2 ⟨rfl, hb⟩;
        have h1 := blk_grow hb (blk_old (blk_new rfl)); have B2 := bt (bta (bta B1 _) _) hb; generalize w1.heap.size = p1 at *; obtain ⟨a0, a1, a2, a3, a4, a5, a6, a7, a8⟩ := cells4 h1; clear hb B1)
    | ((with_reducible refine (aw2 _ _ ?_).mono ?_); (exact blk_new (by simp)); rintro e w3 ⟨rfl, hb⟩;
        replace h1 := blk_grow hb (blk_old (blk_old h1)); have h2 := blk_grow hb (blk_old (blk_new rfl)); have B3 := bt (bta (bta B2 _) _) hb; generalize w2.heap.size = p2 at *; clear hb B2 a0 a1 a2 a3 a4 a5 a6 a7 a8; obtain ⟨a0, a1, a2, a3, a4, a5, a6, a7, a8⟩ := cells4 h1)
    | ((with_reducible refine (aw3 _ _ ?_).mono ?_); (exact blk_new (by simp)); rintro e w4 ⟨rfl, hb⟩;
        replace h1 := blk_grow hb (blk_old (blk_old h1)); replace h2 := blk_grow hb (blk_old (blk_old h2)); have B4 := bt (bta (bta B3 _) _) hb; generalize w3.heap.size = p3 at *; clear hb B3 a0 a1 a2 a3 a4 a5 a6 a7 a8; obtain ⟨a0, a1, a2, a3, a4, a5, a6, a7, a8⟩ := cells4 h1)
    | ((with_reducible refine (aw4 _).mono ?_); rintro e w5 ⟨rfl, hb⟩;
        replace h1 := blk_grow hb (blk_old h1); replace h2 := blk_grow hb (blk_old h2); have B5 := bt (bta B4 _) hb; clear hb B4 a0 a1 a2 a3 a4 a5 a6 a7 a8; obtain ⟨a0, a1, a2, a3, a4, a5, a6, a7, a8⟩ := cells4 h1; obtain ⟨b0, b1, b2, b3, b4, b5, b6, b7, b8⟩ := cells4 h2)
    | ((with_reducible refine (aw5 _).mono ?_); rintro e w6 ⟨x, c, rfl, hb, hp⟩;
        replace h1 := blk_grow hb (blk_old h1); replace h2 := blk_grow hb (blk_old h2); have B6 := bt (bta B5 _) hb; have HP := Lib.hid hp; clear hp B5; clear hb a0 a1 a2 a3 a4 a5 a6 a7 a8 b0 b1 b2 b3 b4 b5 b6 b7 b8; obtain ⟨a0, a1, a2, a3, a4, a5, a6, a7, a8⟩ := cells4 h1; obtain ⟨b0, b1, b2, b3, b4, b5, b6, b7, b8⟩ := cells4 h2)
    | ((with_reducible refine (aw6 _ _ _ _ ?_ ?_).mono ?_); (exact HP.out.below ((Below.refl _ _).alloc (Nat.le_refl _) _)); (exact blk_new rfl); rintro e w7 ⟨rfl, hb⟩;
        replace h1 := blk_grow hb (blk_old h1); replace h2 := blk_grow hb (blk_old h2); have B7 := bt (bta B6 _) hb; clear B6 HP; clear hb a0 a1 a2 a3 a4 a5 a6 a7 a8 b0 b1 b2 b3 b4 b5 b6 b7 b8; obtain ⟨a0, a1, a2, a3, a4, a5, a6, a7, a8⟩ := cells4 h1; obtain ⟨b0, b1, b2, b3, b4, b5, b6, b7, b8⟩ := cells4 h2)
    | ((with_reducible refine (aw7 _).mono ?_); rintro e w8 ⟨rfl, hb⟩; replace h1 := blk_grow hb h1; replace h2 := blk_grow hb h2; have B8 := bt B7 hb; clear B7; clear hb a0 a1 a2 a3 a4 a5 a6 a7 a8 b0 b1 b2 b3 b4 b5 b6 b7 b8; obtain ⟨a0, a1, a2, a3, a4, a5, a6, a7, a8⟩ := cells4 h1; obtain ⟨b0, b1, b2, b3, b4, b5, b6, b7, b8⟩ := cells4 h2)
    | ((with_reducible refine (aw8 _).mono ?_); rintro e w9 ⟨rfl, hb⟩; replace h1 := blk_grow hb h1; replace h2 := blk_grow hb h2; have B9 := bt B8 hb; clear B8; clear hb a0 a1 a2 a3 a4 a5 a6 a7 a8 b0 b1 b2 b3 b4 b5 b6 b7 b8; obtain ⟨a0, a1, a2, a3, a4, a5, a6, a7, a8⟩ := cells4 h1; obtain ⟨b0, b1, b2, b3, b4, b5, b6, b7, b8⟩ := cells4 h2)
    | ((with_reducible refine (aw9 _).mono ?_); rintro e w10 ⟨rfl, hb⟩; replace h1 := blk_grow hb h1; replace h2 := blk_grow hb h2; have B10 := bt B9 hb; clear B9; clear hb a0 a1 a2 a3 a4 a5 a6 a7 a8 b0 b1 b2 b3 b4 b5 b6 b7 b8; obtain ⟨a0, a1, a2, a3, a4, a5, a6, a7, a8⟩ := cells4 h1; obtain ⟨b0, b1, b2, b3, b4, b5, b6, b7, b8⟩ := cells4 h2)
    | ((with_reducible refine (aw12 _).mono ?_); rintro e w11 ⟨x, c, rfl, hb⟩; replace h1 := blk_grow hb h1; replace h2 := blk_grow hb h2; have B11 := bt B10 hb; clear B10; clear hb a0 a1 a2 a3 a4 a5 a6 a7 a8 b0 b1 b2 b3 b4 b5 b6 b7 b8; obtain ⟨a0, a1, a2, a3, a4, a5, a6, a7, a8⟩ := cells4 h1; obtain ⟨b0, b1, b2, b3, b4, b5, b6, b7, b8⟩ := cells4 h2)
    | ((with_reducible refine (aw10 _).mono ?_); rintro e w12 ⟨rfl, hb⟩; replace h1 := blk_grow hb h1; replace h2 := blk_grow hb h2; have B12 := bt B11 hb; clear B11; clear hb a0 a1 a2 a3 a4 a5 a6 a7 a8 b0 b1 b2 b3 b4 b5 b6 b7 b8; obtain ⟨a0, a1, a2, a3, a4, a5, a6, a7, a8⟩ := cells4 h1; obtain ⟨b0, b1, b2, b3, b4, b5, b6, b7, b8⟩ := cells4 h2)
    | ((with_reducible refine (aw11 _).mono ?_); rintro e w13 ⟨rfl, hb⟩; have B13 := bt B12 hb))
  go_returns
  exact ⟨rfl, B13⟩
end Go.Proofs.Ytgjajliiichfmaa
