/- The law TuneBack: true, whatever the input. -/
import Derived.Test.YtgjajliiichfmaaT8
import Derived.Test.YtgjajliiichfmaaT9
namespace Go.Proofs.Ytgjajliiichfmaa
open Go.RowKit
attribute [local go_sem] cell_over frozen_over lt_over le_over ne_over over_ne cell_set_same softAt softUpon

def obj24 (a b c d : Int) : Obj := .cells #[.int .i64 a, .int .i64 b, .int .i64 c, .int .i64 d] 24 (0, 0)

set_option maxRecDepth 100000 in
set_option maxHeartbeats 4000000 in
theorem back_no (a b c d a' b' c' d' : Int) (w : World) (hn : ¬ (okT a b c d ∧ okT a' b' c' d')) :
    Calls Try.prog 3 #[.agg #[.int .i64 a, .int .i64 b, .int .i64 c, .int .i64 d], .agg #[.int .i64 a', .int .i64 b', .int .i64 c', .int .i64 d']] w fun e w' => e = .returned (.bool true) ∧ Below w.heap.size w w' := by
  have D := Lib.hid (diff_no a b c d a' b' c' d' hn)
  have C1 := Lib.hid (check_any a b c d)
  have C2 := Lib.hid (check_any a' b' c' d')
  have hc : (chkV a b c d = 8) ∨ (chkV a b c d = 0 ∧ chkV a' b' c' d' = 8) := by
    unfold chkV
    by_cases h1 : okT a b c d
    · rw [if_pos h1, if_neg (fun h2 => hn ⟨h1, h2⟩)]; exact .inr ⟨rfl, rfl⟩
    · rw [if_neg h1]; exact .inl rfl
  clear hn
  go_enter Try.func3, Try.ntmps3
  go_wp2
  have h2 := blk_old (o := .cells #[.int .i64 a', .int .i64 b', .int .i64 c', .int .i64 d'] 23) (blk_new (w := w) (o := .cells #[.int .i64 a, .int .i64 b, .int .i64 c, .int .i64 d] 23) rfl)
  have h3 := blk_new (w := w.alloc (.cells #[.int .i64 a, .int .i64 b, .int .i64 c, .int .i64 d] 23)) (o := .cells #[.int .i64 a', .int .i64 b', .int .i64 c', .int .i64 d'] 23) (n := w.heap.size + 1) (by simp)
  have B1 := bta (bta (Below.refl w.heap.size w) (.cells #[.int .i64 a, .int .i64 b, .int .i64 c, .int .i64 d] 23)) (.cells #[.int .i64 a', .int .i64 b', .int .i64 c', .int .i64 d'] 23)
  generalize (w.alloc (.cells #[.int .i64 a, .int .i64 b, .int .i64 c, .int .i64 d] 23)).alloc (.cells #[.int .i64 a', .int .i64 b', .int .i64 c', .int .i64 d'] 23) = w1 at *
  obtain ⟨a0, a1, a2, a3, a4, a5, a6, a7, a8⟩ := cells4 h2
  obtain ⟨b0, b1, b2, b3, b4, b5, b6, b7, b8⟩ := cells4 h3
  refine wp_soft2 6 ⟨2, 5, fun b => .pointer (some ⟨b, 0, none⟩), obj24 0 0 0 0, some 4, obj24 a b c d⟩ ⟨3, 6, fun b => .pointer (some ⟨b, 0, none⟩), obj24 0 0 0 0, some 5, obj24 a' b' c' d'⟩ (by kernel_rfl) (by kernel_rfl) (tail_end (by kernel_rfl)) ?_
  simp only [List.take_succ_cons, List.take_zero]
  repeat (first | (refine softLex_step (by rfl) (by rfl) (fun K hK => ?_); go_simp; (refine hK _ ?_; clear hK K)))
  refine softLex_new _ rfl rfl rfl (fun y => by go_simp; rfl) ?_
  refine softLex_new _ rfl rfl rfl (fun y => by go_simp; rfl) ?_
  refine softLex_fill _ rfl rfl rfl rfl (fun y b hb => ?_) ?_
  · unfold obj24 at hb
    obtain ⟨e0, e1, e2, e3, _, _, _, _, _⟩ := cells4 hb
    have e4 := blk_free hb 0
    have e5 := blk_free hb 1
    have e6 := blk_free hb 2
    have e7 := blk_free hb 3
    refine ⟨_, ?_, ((((Turned.refl hb).setCell 0 _).setCell 1 _).setCell 2 _).setCell 3 _⟩
    go_simp
  refine softLex_fill _ rfl rfl rfl rfl (fun y b hb => ?_) ?_
  · unfold obj24 at hb
    obtain ⟨e0, e1, e2, e3, _, _, _, _, _⟩ := cells4 hb
    have e4 := blk_free hb 0
    have e5 := blk_free hb 1
    have e6 := blk_free hb 2
    have e7 := blk_free hb 3
    refine ⟨_, ?_, ((((Turned.refl hb).setCell 0 _).setCell 1 _).setCell 2 _).setCell 3 _⟩
    go_simp
  refine softLex_nil ?_
  intro w2 p5 p6 hb2 hp5 hp6 hp56 h5 h6
  have h5 : w2.heap[p5]? = some (.cells #[.int .i64 a, .int .i64 b, .int .i64 c, .int .i64 d] 24 (0, 0)) := h5
  have h6 : w2.heap[p6]? = some (.cells #[.int .i64 a', .int .i64 b', .int .i64 c', .int .i64 d'] 24 (0, 0)) := h6
  have B2 := bt B1 hb2
  clear B1 hb2 hp5 hp6 hp56 h2 h3 a0 a1 a2 a3 a4 a5 a6 a7 a8 b0 b1 b2 b3 b4 b5 b6 b7 b8
  obtain ⟨a0, a1, a2, a3, a4, a5, a6, a7, a8⟩ := cells4 h5
  obtain ⟨b0, b1, b2, b3, b4, b5, b6, b7, b8⟩ := cells4 h6
  rcases hc with hc | ⟨hc, hc'⟩
  · rw [hc] at C1
    go_wp2_with (first
      | ((with_reducible refine (C1.out _).mono ?_); rintro e w3 ⟨rfl, hb⟩; replace h5 := blk_grow hb h5; replace h6 := blk_grow hb h6; have B3 := bt B2 hb; clear hb B2 a0 a1 a2 a3 a4 a5 a6 a7 a8 b0 b1 b2 b3 b4 b5 b6 b7 b8; obtain ⟨a0, a1, a2, a3, a4, a5, a6, a7, a8⟩ := cells4 h5; obtain ⟨b0, b1, b2, b3, b4, b5, b6, b7, b8⟩ := cells4 h6)
      | ((with_reducible refine (D.out _).mono ?_); rintro e w4 ⟨rfl, hb⟩; have B4 := bt B3 hb; clear hb B3)
      | ((with_reducible refine (awake_any _).mono ?_); rintro e w5 ⟨rfl, hb⟩; have B5 := bt B4 hb; clear hb B4))
    go_returns
    exact ⟨rfl, B5⟩
  · rw [hc] at C1
    rw [hc'] at C2
    go_wp2_with (first
      | ((with_reducible refine (C1.out _).mono ?_); rintro e w3 ⟨rfl, hb⟩; replace h5 := blk_grow hb h5; replace h6 := blk_grow hb h6; have B3 := bt B2 hb; clear hb B2 a0 a1 a2 a3 a4 a5 a6 a7 a8 b0 b1 b2 b3 b4 b5 b6 b7 b8; obtain ⟨a0, a1, a2, a3, a4, a5, a6, a7, a8⟩ := cells4 h5; obtain ⟨b0, b1, b2, b3, b4, b5, b6, b7, b8⟩ := cells4 h6)
      | ((with_reducible refine (C2.out _).mono ?_); rintro e w3 ⟨rfl, hb⟩; replace h5 := blk_grow hb h5; replace h6 := blk_grow hb h6; have B4 := bt B3 hb; clear hb B3 a0 a1 a2 a3 a4 a5 a6 a7 a8 b0 b1 b2 b3 b4 b5 b6 b7 b8; obtain ⟨a0, a1, a2, a3, a4, a5, a6, a7, a8⟩ := cells4 h5; obtain ⟨b0, b1, b2, b3, b4, b5, b6, b7, b8⟩ := cells4 h6)
      | ((with_reducible refine (D.out _).mono ?_); rintro e w4 ⟨rfl, hb⟩; have B5 := bt B4 hb; clear hb B4)
      | ((with_reducible refine (awake_any _).mono ?_); rintro e w5 ⟨rfl, hb⟩; have B6 := bt B5 hb; clear hb B5))
    go_returns
    exact ⟨rfl, B6⟩
end Go.Proofs.Ytgjajliiichfmaa
