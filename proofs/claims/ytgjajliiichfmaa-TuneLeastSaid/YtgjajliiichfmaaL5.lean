/- The law TuneLeast: true, whatever the input. -/
import Derived.Test.YtgjajliiichfmaaL4
import Derived.Deep.CutRange
namespace Go.Proofs.Ytgjajliiichfmaa
open Go.RowKit
attribute [local go_sem] cell_over frozen_over lt_over le_over ne_over over_ne cell_set_same softAt softUpon
attribute [local go_sem high] vals_eq

/-- Apply at one pair, and at the law's own three. -/
theorem apply_1 (x : V4) (i v : Int) (b : Nat) (w : World) (h : w.heap[b]? = some (.cells #[.int .i64 i, .int .i64 v] 39 (0, 0))) :
    Calls Try.prog 8 #[.agg #[.int .i64 x.1, .int .i64 x.2.1, .int .i64 x.2.2.1, .int .i64 x.2.2.2], .slice (some ⟨b, 0, none⟩) 1 1] w fun e w' => e = .returned (.tuple #[.agg #[.int .i64 (applyV x [(i, v)]).1.1, .int .i64 (applyV x [(i, v)]).1.2.1, .int .i64 (applyV x [(i, v)]).1.2.2.1, .int .i64 (applyV x [(i, v)]).1.2.2.2], .int .u32 (applyV x [(i, v)]).2]) ∧ Below w.heap.size w w' :=
  apply_any x [(i, v)] _ 1 w (prs_blk h rfl) (by simp)
theorem apply_3 (x : V4) (v : Int) (b : Nat) (w : World) (h : w.heap[b]? = some (.cells #[.int .i64 5, .int .i64 v, .int .i64 0, .int .i64 v, .int .i64 (-1), .int .i64 v] 39 (0, 0))) :
    Calls Try.prog 8 #[.agg #[.int .i64 x.1, .int .i64 x.2.1, .int .i64 x.2.2.1, .int .i64 x.2.2.2], .slice (some ⟨b, 0, none⟩) 3 3] w fun e w' => e = .returned (.tuple #[.agg #[.int .i64 (applyV x [(5, v), (0, v), (-1, v)]).1.1, .int .i64 (applyV x [(5, v), (0, v), (-1, v)]).1.2.1, .int .i64 (applyV x [(5, v), (0, v), (-1, v)]).1.2.2.1, .int .i64 (applyV x [(5, v), (0, v), (-1, v)]).1.2.2.2], .int .u32 (applyV x [(5, v), (0, v), (-1, v)]).2]) ∧ Below w.heap.size w w' :=
  apply_any x [(5, v), (0, v), (-1, v)] _ 3 w (prs_blk h rfl) (by simp)

theorem cells2 {w : World} {b : Nat} {x0 x1 : Value} {t : TypeId} (h : w.heap[b]? = some (.cells #[x0, x1] t (0, 0))) : w.cell? ⟨b, 0, none⟩ = some x0 ∧ w.cell? ⟨b, 1, none⟩ = some x1 ∧ b < w.heap.size := ⟨blk_cell h 0, blk_cell h 1, blk_lt h⟩

/-- The cases of the law: the first values may be or not; the second ones; what a setting gives. -/
structure Leasts (cx cy : Int) (q r : V4 × Int) (x : V4) (i : Int) (one : Bool) (cz cb : Int) : Prop where
  all : (cx = 8 ∧ q = ((0, 0, 0, 0), 2) ∧ r = ((0, 0, 0, 0), 2)) ∨
    (cx = 0 ∧ q = (x, 0) ∧ ((cy = 0 ∧ cz = 0) ∨ cy = 8) ∧ (((r.2 == 0) = false ∧ ¬ r.2 = 0) ∨ (r.2 = 0 ∧ cb = 0 ∧ (i < 1 ∨ 4 < i ∨ (1 ≤ i ∧ i ≤ 4 ∧ one = true)))))

set_option maxRecDepth 100000 in
set_option maxHeartbeats 4000000 in
theorem least_law (a b c d a' b' c' d' i v : Int) (w : World) :
    Calls Try.prog 4 #[.agg #[.int .i64 a, .int .i64 b, .int .i64 c, .int .i64 d], .agg #[.int .i64 a', .int .i64 b', .int .i64 c', .int .i64 d'], .agg #[.int .i64 i, .int .i64 v]] w fun e w' => e = .returned (.bool true) ∧ Below w.heap.size w w' := by
  have C1 := check_any a b c d
  have C2 := check_any a' b' c' d'
  have C3 := check_any (mn a a') (mn b b') (mn c c') (mn d d')
  have C4 := check_any (applyV (a, b, c, d) [(i, v)]).1.1 (applyV (a, b, c, d) [(i, v)]).1.2.1 (applyV (a, b, c, d) [(i, v)]).1.2.2.1 (applyV (a, b, c, d) [(i, v)]).1.2.2.2
  have M1 := least_any a b c d a' b' c' d'
  have M2 := least_any a' b' c' d' a b c d
  rw [mn_comm a' a, mn_comm b' b, mn_comm c' c, mn_comm d' d] at M2
  have M3 := least_any a b c d a b c d
  rw [mn_self, mn_self, mn_self, mn_self] at M3
  have M4 := least_any (mn a a') (mn b b') (mn c c') (mn d d') a b c d
  rw [mn_left, mn_left, mn_left, mn_left] at M4
  have A1 := apply_1 (a, b, c, d) i v
  have A3 := apply_3 (a, b, c, d) v
  have LL : Leasts (chkV a b c d) (chkV a' b' c' d') (applyV (a, b, c, d) [(5, v), (0, v), (-1, v)]) (applyV (a, b, c, d) [(i, v)]) (a, b, c, d) i
      ((applyV (a, b, c, d) [(i, v)]).1.1 == v || ((applyV (a, b, c, d) [(i, v)]).1.2.1 == v || ((applyV (a, b, c, d) [(i, v)]).1.2.2.1 == v || (applyV (a, b, c, d) [(i, v)]).1.2.2.2 == v)))
      (chkV (mn a a') (mn b b') (mn c c') (mn d d')) (chkV (applyV (a, b, c, d) [(i, v)]).1.1 (applyV (a, b, c, d) [(i, v)]).1.2.1 (applyV (a, b, c, d) [(i, v)]).1.2.2.1 (applyV (a, b, c, d) [(i, v)]).1.2.2.2) := by
    refine ⟨?_⟩
    by_cases hx : okT a b c d
    · refine .inr ⟨if_pos hx, apply_none (x := (a, b, c, d)) hx v, ?_, ?_⟩
      · by_cases hy : okT a' b' c' d'
        · exact .inl ⟨if_pos hy, if_pos (okT_mn hx hy)⟩
        · exact .inr (if_neg hy)
      · by_cases he : (applyV (a, b, c, d) [(i, v)]).2 = 0
        · obtain ⟨h1, h2⟩ := apply_one (a, b, c, d) i v he
          refine .inr ⟨he, if_pos h1, ?_⟩
          by_cases h3 : i < 1
          · exact .inl h3
          · by_cases h4 : 4 < i
            · exact .inr (.inl h4)
            · refine .inr (.inr ⟨by omega, by omega, ?_⟩)
              rcases h2 with h2 | h2 | h2 | h2 | h2 | h2
              · exact absurd h2 h3
              · exact absurd h2 h4
              all_goals simp [h2]
        · exact .inl ⟨by simpa using he, he⟩
    · refine .inl ⟨if_neg hx, ?_, ?_⟩
      · unfold applyV; rw [if_neg (show ¬ okV (a, b, c, d) from hx)]
      · unfold applyV; rw [if_neg (show ¬ okV (a, b, c, d) from hx)]
  dsimp only at A1 A3
  generalize chkV a b c d = cx at *
  generalize chkV a' b' c' d' = cy at *
  generalize mn a a' = m0 at *
  generalize mn b b' = m1 at *
  generalize mn c c' = m2 at *
  generalize mn d d' = m3 at *
  generalize chkV m0 m1 m2 m3 = cz at *
  generalize applyV (a, b, c, d) [(5, v), (0, v), (-1, v)] = q at *
  generalize applyV (a, b, c, d) [(i, v)] = r at *
  obtain ⟨⟨q0, q1, q2, q3⟩, q4⟩ := q
  obtain ⟨⟨r0, r1, r2, r3⟩, r4⟩ := r
  dsimp only at *
  generalize chkV r0 r1 r2 r3 = cb at *
  replace C1 := Lib.hid C1
  replace C2 := Lib.hid C2
  replace C3 := Lib.hid C3
  replace C4 := Lib.hid C4
  replace M1 := Lib.hid M1
  replace M2 := Lib.hid M2
  replace M3 := Lib.hid M3
  replace M4 := Lib.hid M4
  replace A1 := Lib.hid A1
  replace A3 := Lib.hid A3
  obtain ⟨oz, hoz⟩ : ∃ o, ((0 : Int) == v) = o := ⟨_, rfl⟩
  go_enter Try.func4, Try.ntmps4
  go_wp2
  have h2 := blk_old (o := .cells #[.int .i64 i, .int .i64 v] 39) (blk_old (o := .cells #[.int .i64 a', .int .i64 b', .int .i64 c', .int .i64 d'] 23) (blk_new (w := w) (o := .cells #[.int .i64 a, .int .i64 b, .int .i64 c, .int .i64 d] 23) rfl))
  have h3 := blk_old (o := .cells #[.int .i64 i, .int .i64 v] 39) (blk_new (w := w.alloc (.cells #[.int .i64 a, .int .i64 b, .int .i64 c, .int .i64 d] 23)) (o := .cells #[.int .i64 a', .int .i64 b', .int .i64 c', .int .i64 d'] 23) (n := w.heap.size + 1) (by simp))
  have h5 := blk_new (w := (w.alloc (.cells #[.int .i64 a, .int .i64 b, .int .i64 c, .int .i64 d] 23)).alloc (.cells #[.int .i64 a', .int .i64 b', .int .i64 c', .int .i64 d'] 23)) (o := .cells #[.int .i64 i, .int .i64 v] 39) (n := w.heap.size + 1 + 1) (by simp)
  have B1 := bta (bta (bta (Below.refl w.heap.size w) (.cells #[.int .i64 a, .int .i64 b, .int .i64 c, .int .i64 d] 23)) (.cells #[.int .i64 a', .int .i64 b', .int .i64 c', .int .i64 d'] 23)) (.cells #[.int .i64 i, .int .i64 v] 39)
  generalize ((w.alloc (.cells #[.int .i64 a, .int .i64 b, .int .i64 c, .int .i64 d] 23)).alloc (.cells #[.int .i64 a', .int .i64 b', .int .i64 c', .int .i64 d'] 23)).alloc (.cells #[.int .i64 i, .int .i64 v] 39) = w1 at *
  obtain ⟨a0, a1, a2, a3, a4, a5, a6, a7, a8⟩ := cells4 h2
  obtain ⟨b0, b1, b2, b3, b4, b5, b6, b7, b8⟩ := cells4 h3
  refine wp_soft2 6 ⟨2, 7, fun b => .pointer (some ⟨b, 0, none⟩), obj24 0 0 0 0, some 4, obj24 a b c d⟩ ⟨3, 8, fun b => .pointer (some ⟨b, 0, none⟩), obj24 0 0 0 0, some 5, obj24 a' b' c' d'⟩ (by kernel_rfl) (by kernel_rfl) (tail_end (by kernel_rfl)) ?_
  simp only [List.take_succ_cons, List.take_zero]
  repeat (first | (refine softLex_step (by rfl) (by rfl) (fun K hK => ?_); go_simp; (refine hK _ ?_; clear hK K)))
  refine softLex_new _ rfl rfl rfl (fun y => by go_simp; rfl) ?_
  refine softLex_new _ rfl rfl rfl (fun y => by go_simp; rfl) ?_
  refine softLex_fill _ rfl rfl rfl rfl (fun y b hb => ?_) ?_
  · unfold obj24 at hb
    obtain ⟨e0, e1, e2, e3, _, _, _, _, _⟩ := cells4 hb
    have e4 := blk_free hb 0
    have e5 := blk_free hb 1
    have e6 := blk_free hb 2
    have e7 := blk_free hb 3
    refine ⟨_, ?_, ((((Turned.refl hb).setCell 0 _).setCell 1 _).setCell 2 _).setCell 3 _⟩
    go_simp
  refine softLex_fill _ rfl rfl rfl rfl (fun y b hb => ?_) ?_
  · unfold obj24 at hb
    obtain ⟨e0, e1, e2, e3, _, _, _, _, _⟩ := cells4 hb
    have e4 := blk_free hb 0
    have e5 := blk_free hb 1
    have e6 := blk_free hb 2
    have e7 := blk_free hb 3
    refine ⟨_, ?_, ((((Turned.refl hb).setCell 0 _).setCell 1 _).setCell 2 _).setCell 3 _⟩
    go_simp
  refine softLex_nil ?_
  intro w2 p7 p8 hb2 hp7 hp8 hp76 h7 h8
  have h7 : w2.heap[p7]? = some (.cells #[.int .i64 a, .int .i64 b, .int .i64 c, .int .i64 d] 24 (0, 0)) := h7
  have h8 : w2.heap[p8]? = some (.cells #[.int .i64 a', .int .i64 b', .int .i64 c', .int .i64 d'] 24 (0, 0)) := h8
  have B2 := bt B1 hb2
  replace h5 := blk_grow hb2 h5
  clear B1 hb2 hp7 hp8 hp76 h2 h3 a0 a1 a2 a3 a4 a5 a6 a7 a8 b0 b1 b2 b3 b4 b5 b6 b7 b8
  obtain ⟨a0, a1, a2, a3, a4, a5, a6, a7, a8⟩ := cells4 h7
  obtain ⟨b0, b1, b2, b3, b4, b5, b6, b7, b8⟩ := cells4 h8
  obtain ⟨g0, g1, g2⟩ := cells2 h5
  obtain ⟨hall⟩ := LL
  rcases hall with ⟨rfl, hq, hr⟩ | ⟨rfl, hq, hcy, hr⟩
  · simp only [Prod.mk.injEq] at hq hr
    obtain ⟨⟨rfl, rfl, rfl, rfl⟩, rfl⟩ := hq
    obtain ⟨⟨rfl, rfl, rfl, rfl⟩, rfl⟩ := hr
    go_upto_region 8 with (first
      | ((with_reducible refine (M1.out _).mono ?_); rintro e w3 ⟨rfl, hb⟩; replace h5 := blk_grow hb h5; replace h7 := blk_grow hb h7; replace h8 := blk_grow hb h8; have B3 := bt B2 hb; clear hb a0 a1 a2 a3 a4 a5 a6 a7 a8 b0 b1 b2 b3 b4 b5 b6 b7 b8 g0 g1 g2; obtain ⟨a0, a1, a2, a3, a4, a5, a6, a7, a8⟩ := cells4 h7; obtain ⟨b0, b1, b2, b3, b4, b5, b6, b7, b8⟩ := cells4 h8; obtain ⟨g0, g1, g2⟩ := cells2 h5)
      | ((with_reducible refine (A3.out _ _ ?_).mono ?_); (exact blk_new (by simp)); rintro e w4 ⟨rfl, hb⟩; replace h5 := blk_grow hb (blk_old (blk_old h5)); replace h7 := blk_grow hb (blk_old (blk_old h7)); replace h8 := blk_grow hb (blk_old (blk_old h8)); have h9 := blk_grow hb (blk_old (blk_new rfl)); have B4 := bt (bta (bta B3 _) _) hb; generalize w3.heap.size = p9 at *; clear hb a0 a1 a2 a3 a4 a5 a6 a7 a8 b0 b1 b2 b3 b4 b5 b6 b7 b8 g0 g1 g2; obtain ⟨a0, a1, a2, a3, a4, a5, a6, a7, a8⟩ := cells4 h7; obtain ⟨b0, b1, b2, b3, b4, b5, b6, b7, b8⟩ := cells4 h8; obtain ⟨g0, g1, g2⟩ := cells2 h5)
      | ((with_reducible refine (C1.out _).mono ?_); rintro e w5 ⟨rfl, hb⟩; replace h5 := blk_grow hb (blk_old h5); replace h7 := blk_grow hb (blk_old h7); replace h8 := blk_grow hb (blk_old h8); replace h9 := blk_grow hb (blk_old h9); have B5 := bt (bta B4 _) hb; clear hb a0 a1 a2 a3 a4 a5 a6 a7 a8 b0 b1 b2 b3 b4 b5 b6 b7 b8 g0 g1 g2; obtain ⟨a0, a1, a2, a3, a4, a5, a6, a7, a8⟩ := cells4 h7; obtain ⟨b0, b1, b2, b3, b4, b5, b6, b7, b8⟩ := cells4 h8; obtain ⟨c0, c1, c2, c3, c4, c5, c6, c7, c8⟩ := cells4 h9; obtain ⟨g0, g1, g2⟩ := cells2 h5)
      | ((with_reducible refine (C1.out _).mono ?_); rintro e w6 ⟨rfl, hb⟩; replace h5 := blk_grow hb h5; replace h7 := blk_grow hb h7; replace h8 := blk_grow hb h8; replace h9 := blk_grow hb h9; have B6 := bt B5 hb; clear hb a0 a1 a2 a3 a4 a5 a6 a7 a8 b0 b1 b2 b3 b4 b5 b6 b7 b8 c0 c1 c2 c3 c4 c5 c6 c7 c8 g0 g1 g2; obtain ⟨a0, a1, a2, a3, a4, a5, a6, a7, a8⟩ := cells4 h7; obtain ⟨b0, b1, b2, b3, b4, b5, b6, b7, b8⟩ := cells4 h8; obtain ⟨c0, c1, c2, c3, c4, c5, c6, c7, c8⟩ := cells4 h9; obtain ⟨g0, g1, g2⟩ := cells2 h5)
      | ((with_reducible refine (A1.out _ _ ?_).mono ?_); (exact blk_new rfl); rintro e w7 ⟨rfl, hb⟩; replace h5 := blk_grow hb (blk_old h5); replace h7 := blk_grow hb (blk_old h7); replace h8 := blk_grow hb (blk_old h8); replace h9 := blk_grow hb (blk_old h9); have B7 := bt (bta B6 _) hb; clear hb a0 a1 a2 a3 a4 a5 a6 a7 a8 b0 b1 b2 b3 b4 b5 b6 b7 b8 c0 c1 c2 c3 c4 c5 c6 c7 c8 g0 g1 g2; obtain ⟨a0, a1, a2, a3, a4, a5, a6, a7, a8⟩ := cells4 h7; obtain ⟨b0, b1, b2, b3, b4, b5, b6, b7, b8⟩ := cells4 h8; obtain ⟨c0, c1, c2, c3, c4, c5, c6, c7, c8⟩ := cells4 h9; obtain ⟨g0, g1, g2⟩ := cells2 h5))
    replace h5 := blk_old (o := .cells #[.int .i64 0, .int .i64 0, .int .i64 0, .int .i64 0] 24) h5
    replace h7 := blk_old (o := .cells #[.int .i64 0, .int .i64 0, .int .i64 0, .int .i64 0] 24) h7
    replace h8 := blk_old (o := .cells #[.int .i64 0, .int .i64 0, .int .i64 0, .int .i64 0] 24) h8
    replace h9 := blk_old (o := .cells #[.int .i64 0, .int .i64 0, .int .i64 0, .int .i64 0] 24) h9
    have B8 := bta B7 (.cells #[.int .i64 0, .int .i64 0, .int .i64 0, .int .i64 0] 24)
    have h13 := blk_new (w := w7) (o := .cells #[.int .i64 0, .int .i64 0, .int .i64 0, .int .i64 0] 24) rfl
    generalize w7.heap.size = p13 at *
    generalize w7.alloc (.cells #[.int .i64 0, .int .i64 0, .int .i64 0, .int .i64 0] 24) = w8 at *
    clear B7 a0 a1 a2 a3 a4 a5 a6 a7 a8 b0 b1 b2 b3 b4 b5 b6 b7 b8 c0 c1 c2 c3 c4 c5 c6 c7 c8 g0 g1 g2
    obtain ⟨a0, a1, a2, a3, a4, a5, a6, a7, a8⟩ := cells4 h7
    obtain ⟨b0, b1, b2, b3, b4, b5, b6, b7, b8⟩ := cells4 h8
    obtain ⟨c0, c1, c2, c3, c4, c5, c6, c7, c8⟩ := cells4 h9
    obtain ⟨g0, g1, g2⟩ := cells2 h5
    obtain ⟨d0, d1, d2, d3, d4, d5, d6, d7, d8⟩ := cells4 h13
    go_wp2
    all_goals refine wp_soft0 54 (by kernel_rfl) (by kernel_rfl) (tail_end (by kernel_rfl)) ?_
    all_goals simp only [List.take_succ_cons, List.take_zero]
    all_goals repeat (first | (refine softLex_step (by rfl) (by rfl) (fun K hK => ?_); go_simp; first | (refine hK _ ?_; clear hK K) | (apply Exists.intro; refine ⟨fun x => ?_, hK _ ?_⟩; (first | (with_reducible exact M2.out _) | (with_reducible exact M3.out _) | (with_reducible exact M4.out _) | (with_reducible exact C3.out _) | (with_reducible exact C4.out _) | (with_reducible exact awake_any _)); clear hK K)))
    all_goals refine softLex_nil ?_
    all_goals intro w9 hb9
    all_goals replace B8 := bt B8 hb9
    all_goals go_wp2
    all_goals go_returns
    all_goals exact ⟨rfl, B8⟩
  · simp only [Prod.mk.injEq] at hq
    obtain ⟨⟨rfl, rfl, rfl, rfl⟩, rfl⟩ := hq
    clear hoz
    generalize ho0 : (r0 == v) = o0 at *
    generalize ho1 : (r1 == v) = o1 at *
    generalize ho2 : (r2 == v) = o2 at *
    generalize ho3 : (r3 == v) = o3 at *
    have HR := Lib.hid hr
    clear hr
    rcases hcy with ⟨rfl, rfl⟩ | rfl
    all_goals go_upto_region 8 with (first
      | ((with_reducible refine (M1.out _).mono ?_); rintro e w3 ⟨rfl, hb⟩; replace h5 := blk_grow hb h5; replace h7 := blk_grow hb h7; replace h8 := blk_grow hb h8; have B3 := bt B2 hb; clear hb a0 a1 a2 a3 a4 a5 a6 a7 a8 b0 b1 b2 b3 b4 b5 b6 b7 b8 g0 g1 g2; obtain ⟨a0, a1, a2, a3, a4, a5, a6, a7, a8⟩ := cells4 h7; obtain ⟨b0, b1, b2, b3, b4, b5, b6, b7, b8⟩ := cells4 h8; obtain ⟨g0, g1, g2⟩ := cells2 h5)
      | ((with_reducible refine (A3.out _ _ ?_).mono ?_); (exact blk_new (by simp)); rintro e w4 ⟨rfl, hb⟩; replace h5 := blk_grow hb (blk_old (blk_old h5)); replace h7 := blk_grow hb (blk_old (blk_old h7)); replace h8 := blk_grow hb (blk_old (blk_old h8)); have h9 := blk_grow hb (blk_old (blk_new rfl)); have B4 := bt (bta (bta B3 _) _) hb; generalize w3.heap.size = p9 at *; clear hb a0 a1 a2 a3 a4 a5 a6 a7 a8 b0 b1 b2 b3 b4 b5 b6 b7 b8 g0 g1 g2; obtain ⟨a0, a1, a2, a3, a4, a5, a6, a7, a8⟩ := cells4 h7; obtain ⟨b0, b1, b2, b3, b4, b5, b6, b7, b8⟩ := cells4 h8; obtain ⟨g0, g1, g2⟩ := cells2 h5)
      | ((with_reducible refine (C1.out _).mono ?_); rintro e w5 ⟨rfl, hb⟩; replace h5 := blk_grow hb (blk_old h5); replace h7 := blk_grow hb (blk_old h7); replace h8 := blk_grow hb (blk_old h8); replace h9 := blk_grow hb (blk_old h9); have h10 := blk_grow hb (blk_new rfl); have B5 := bt (bta B4 _) hb; generalize w4.heap.size = p10 at *; clear hb a0 a1 a2 a3 a4 a5 a6 a7 a8 b0 b1 b2 b3 b4 b5 b6 b7 b8 g0 g1 g2; obtain ⟨a0, a1, a2, a3, a4, a5, a6, a7, a8⟩ := cells4 h7; obtain ⟨b0, b1, b2, b3, b4, b5, b6, b7, b8⟩ := cells4 h8; obtain ⟨c0, c1, c2, c3, c4, c5, c6, c7, c8⟩ := cells4 h9; obtain ⟨g0, g1, g2⟩ := cells2 h5; obtain ⟨d0, d1, d2, d3, d4, d5, d6, d7, d8⟩ := cells4 h10)
      | ((with_reducible refine (C2.out _).mono ?_); rintro e w6 ⟨rfl, hb⟩; replace h5 := blk_grow hb h5; replace h7 := blk_grow hb h7; replace h8 := blk_grow hb h8; replace h9 := blk_grow hb h9; replace h10 := blk_grow hb h10; replace B5 := bt B5 hb; clear d0 d1 d2 d3 d4 d5 d6 d7 d8; clear hb a0 a1 a2 a3 a4 a5 a6 a7 a8 b0 b1 b2 b3 b4 b5 b6 b7 b8 c0 c1 c2 c3 c4 c5 c6 c7 c8 g0 g1 g2; obtain ⟨a0, a1, a2, a3, a4, a5, a6, a7, a8⟩ := cells4 h7; obtain ⟨b0, b1, b2, b3, b4, b5, b6, b7, b8⟩ := cells4 h8; obtain ⟨c0, c1, c2, c3, c4, c5, c6, c7, c8⟩ := cells4 h9; obtain ⟨g0, g1, g2⟩ := cells2 h5; obtain ⟨d0, d1, d2, d3, d4, d5, d6, d7, d8⟩ := cells4 h10)
      | ((with_reducible refine (C1.out _).mono ?_); rintro e w6 ⟨rfl, hb⟩; replace h5 := blk_grow hb h5; replace h7 := blk_grow hb h7; replace h8 := blk_grow hb h8; replace h9 := blk_grow hb h9; replace h10 := blk_grow hb h10; have B6 := bt B5 hb; clear d0 d1 d2 d3 d4 d5 d6 d7 d8; clear hb a0 a1 a2 a3 a4 a5 a6 a7 a8 b0 b1 b2 b3 b4 b5 b6 b7 b8 c0 c1 c2 c3 c4 c5 c6 c7 c8 g0 g1 g2; obtain ⟨a0, a1, a2, a3, a4, a5, a6, a7, a8⟩ := cells4 h7; obtain ⟨b0, b1, b2, b3, b4, b5, b6, b7, b8⟩ := cells4 h8; obtain ⟨c0, c1, c2, c3, c4, c5, c6, c7, c8⟩ := cells4 h9; obtain ⟨g0, g1, g2⟩ := cells2 h5; obtain ⟨d0, d1, d2, d3, d4, d5, d6, d7, d8⟩ := cells4 h10)
      | ((with_reducible refine (A1.out _ _ ?_).mono ?_); (exact blk_new rfl); rintro e w7 ⟨rfl, hb⟩; replace h5 := blk_grow hb (blk_old h5); replace h7 := blk_grow hb (blk_old h7); replace h8 := blk_grow hb (blk_old h8); replace h9 := blk_grow hb (blk_old h9); have B7 := bt (bta B6 _) hb; clear h10 d0 d1 d2 d3 d4 d5 d6 d7 d8; clear hb a0 a1 a2 a3 a4 a5 a6 a7 a8 b0 b1 b2 b3 b4 b5 b6 b7 b8 c0 c1 c2 c3 c4 c5 c6 c7 c8 g0 g1 g2; obtain ⟨a0, a1, a2, a3, a4, a5, a6, a7, a8⟩ := cells4 h7; obtain ⟨b0, b1, b2, b3, b4, b5, b6, b7, b8⟩ := cells4 h8; obtain ⟨c0, c1, c2, c3, c4, c5, c6, c7, c8⟩ := cells4 h9; obtain ⟨g0, g1, g2⟩ := cells2 h5))
    all_goals replace h5 := blk_old (o := .cells #[.int .i64 r0, .int .i64 r1, .int .i64 r2, .int .i64 r3] 24) h5
    all_goals replace h7 := blk_old (o := .cells #[.int .i64 r0, .int .i64 r1, .int .i64 r2, .int .i64 r3] 24) h7
    all_goals replace h8 := blk_old (o := .cells #[.int .i64 r0, .int .i64 r1, .int .i64 r2, .int .i64 r3] 24) h8
    all_goals replace h9 := blk_old (o := .cells #[.int .i64 r0, .int .i64 r1, .int .i64 r2, .int .i64 r3] 24) h9
    all_goals have B8 := bta B7 (.cells #[.int .i64 r0, .int .i64 r1, .int .i64 r2, .int .i64 r3] 24)
    all_goals have h13 := blk_new (w := w7) (o := .cells #[.int .i64 r0, .int .i64 r1, .int .i64 r2, .int .i64 r3] 24) rfl
    all_goals generalize w7.heap.size = p13 at *
    all_goals generalize w7.alloc (.cells #[.int .i64 r0, .int .i64 r1, .int .i64 r2, .int .i64 r3] 24) = w8 at *
    all_goals clear B7 a0 a1 a2 a3 a4 a5 a6 a7 a8 b0 b1 b2 b3 b4 b5 b6 b7 b8 c0 c1 c2 c3 c4 c5 c6 c7 c8 g0 g1 g2
    all_goals obtain ⟨a0, a1, a2, a3, a4, a5, a6, a7, a8⟩ := cells4 h7
    all_goals obtain ⟨b0, b1, b2, b3, b4, b5, b6, b7, b8⟩ := cells4 h8
    all_goals obtain ⟨c0, c1, c2, c3, c4, c5, c6, c7, c8⟩ := cells4 h9
    all_goals obtain ⟨g0, g1, g2⟩ := cells2 h5
    all_goals obtain ⟨d0, d1, d2, d3, d4, d5, d6, d7, d8⟩ := cells4 h13
    all_goals go_cut [15] from 63 to 88 (fun o wx => o = .bool (o0 || (o1 || (o2 || o3))) ∧ wx = w8)
    case first =>
      go_wp2
      all_goals go_meet
      all_goals exact ⟨by simp [*], rfl⟩
    case first =>
      go_wp2
      all_goals go_meet
      all_goals exact ⟨by simp [*], rfl⟩
    all_goals obtain ⟨rfl, rfl⟩ := hcut
    all_goals clear ho0 ho1 ho2 ho3
    all_goals generalize (o0 || (o1 || (o2 || o3))) = one at *
    all_goals rcases HR.out with ⟨he1, he2⟩ | ⟨rfl, rfl, h3⟩
    all_goals clear HR
    case' rest.inr => rcases h3 with h3 | h3 | ⟨h3, h4, rfl⟩
    case' rest.inr => rcases h3 with h3 | h3 | ⟨h3, h4, rfl⟩
    all_goals try (have hi1 : ¬ i < 1 := by omega)
    all_goals try (have hi4 : ¬ 4 < i := by omega)
    all_goals go_wp2
    all_goals refine wp_soft0 54 (by kernel_rfl) (by kernel_rfl) (tail_end (by kernel_rfl)) ?_
    all_goals simp only [List.take_succ_cons, List.take_zero]
    all_goals repeat (first | (refine softLex_step (by rfl) (by rfl) (fun K hK => ?_); go_simp; first | (refine hK _ ?_; clear hK K) | (apply Exists.intro; refine ⟨fun x => ?_, hK _ ?_⟩; (first | (with_reducible exact M2.out _) | (with_reducible exact M3.out _) | (with_reducible exact M4.out _) | (with_reducible exact C3.out _) | (with_reducible exact C4.out _) | (with_reducible exact awake_any _)); clear hK K)))
    all_goals refine softLex_nil ?_
    all_goals intro w9 hb9
    all_goals replace B8 := bt B8 hb9
    all_goals go_wp2
    all_goals go_returns
    all_goals exact ⟨rfl, B8⟩

theorem least_law_any (a b c d a' b' c' d' i v : Int) (w : World) :
    Calls Try.prog 4 #[.agg #[.int .i64 a, .int .i64 b, .int .i64 c, .int .i64 d], .agg #[.int .i64 a', .int .i64 b', .int .i64 c', .int .i64 d'], .agg #[.int .i64 i, .int .i64 v]] w fun e w' => e = .returned (.bool true) ∧ Below w.heap.size w w' := least_law a b c d a' b' c' d' i v w
end Go.Proofs.Ytgjajliiichfmaa
