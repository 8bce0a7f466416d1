/- The law TuneBack where both values may be: true, whatever the input. -/
import Derived.Test.YtgjajliiichfmaaL3
import Derived.Test.YtgjajliiichfmaaS2
namespace Go.Proofs.Ytgjajliiichfmaa
open Go.RowKit
attribute [local go_sem] cell_over frozen_over lt_over le_over ne_over over_ne cell_set_same openAt openUpon softAt softUpon callUpon

/-- Two values are the same. -/
theorem vals_eq (d : Nat) (a0 a1 a2 a3 b0 b1 b2 b3 : Int) (w : World) : (Op.equalIn (d + 2) 24 (.agg #[.int .i64 a0, .int .i64 a1, .int .i64 a2, .int .i64 a3]) (.agg #[.int .i64 b0, .int .i64 b1, .int .i64 b2, .int .i64 b3])).run Try.prog w = .ok (decide (a0 = b0 ∧ a1 = b1 ∧ a2 = b2 ∧ a3 = b3)) w := by
  rw [run_equalIn_struct w (d + 1) 24 _ _ (by kernel_rfl) (by kernel_rfl)]
  simp [run_underlying Try.underlying24, Try.underlying24, go_sem]
  by_cases h0 : a0 = b0 <;> by_cases h1 : a1 = b1 <;> by_cases h2 : a2 = b2 <;> by_cases h3 : a3 = b3 <;> simp [h0, h1, h2, h3]
attribute [local go_sem high] vals_eq

theorem own_turned {w w2 : World} {base b : Nat} {e t : TypeId} {size : Nat} {v : Value} {n : Nat} {xs : List Value} {cs : Array Value} {f : Nat × Nat} {o : Obj} (h : w.ownsRow base e size v n xs) (hb : w.heap[b]? = some (.cells cs t f)) (hte : t ≠ e) (ht : Turned w w2 b o) : w2.ownsRow base e size v n xs := by
  refine ⟨h.1, ?_⟩
  rcases h.2 with hn | ⟨g, cap, cur, hv, hb', hg, rest⟩
  · exact .inl hn
  · refine .inr ⟨g, cap, cur, hv, hb', ?_, rest⟩
    rw [ht.other g ?_]
    · exact hg
    · rintro rfl
      rw [hb] at hg
      cases hg
      exact hte rfl

theorem diff_open (a b c d a' b' c' d' : Int) (h1 : okT a b c d) (h2 : okT a' b' c' d') (w : World) : Calls Try.prog 6 #[.agg #[.int .i64 a, .int .i64 b, .int .i64 c, .int .i64 d], .agg #[.int .i64 a', .int .i64 b', .int .i64 c', .int .i64 d']] w fun e w' => ∃ x k, e = .returned (.slice x (dl (at4 a b c d) (at4 a' b' c' d') 4).length k) ∧ Below w.heap.size w w' ∧ Prs w' x (dl (at4 a b c d) (at4 a' b' c' d') 4) := by
  refine (diff_any a b c d a' b' c' d' h1 h2 w).mono ?_
  rintro e w' ⟨v, rfl, hb, ho⟩
  obtain ⟨x, k, rfl, hp⟩ := own_prs ho
  exact ⟨x, k, rfl, hb, hp⟩

set_option maxRecDepth 100000 in
set_option maxHeartbeats 4000000 in
theorem back_yes (a b c d a' b' c' d' : Int) (w : World) (h1 : okT a b c d) (h2 : okT a' b' c' d') :
    Calls Try.prog 3 #[.agg #[.int .i64 a, .int .i64 b, .int .i64 c, .int .i64 d], .agg #[.int .i64 a', .int .i64 b', .int .i64 c', .int .i64 d']] w fun e w' => e = .returned (.bool true) ∧ Below w.heap.size w w' := by
  have C1 := Lib.hid (check_yes h1)
  have C2 := Lib.hid (check_yes h2)
  have D := diff_open a b c d a' b' c' d' h1 h2
  have A1 := apply_any (a, b, c, d) (dl (at4 a b c d) (at4 a' b' c' d') 4)
  have A2 := apply_any (a', b', c', d') (dl (at4 a b c d) (at4 a' b' c' d') 4)
  have A3 := apply_any (a, b, c, d) (pl (at4 a' b' c' d') 4)
  rw [apply_diff (x := (a, b, c, d)) (y := (a', b', c', d')) h1 h2] at A1
  rw [apply_again (x := (a, b, c, d)) (y := (a', b', c', d')) h2] at A2
  rw [apply_pairs (x := (a, b, c, d)) (y := (a', b', c', d')) h1 h2, pl_len] at A3
  have P := pairs_any a' b' c' d'
  have hL2 := pl_len (at4 a' b' c' d') 4
  have hL := dl_len (at4 a b c d) (at4 a' b' c' d') 4
  have hN : (dl (at4 a b c d) (at4 a' b' c' d') 4).length = 0 ↔ (a, b, c, d) = (a', b', c', d') := diff_nil (x := (a, b, c, d)) (y := (a', b', c', d'))
  have hm := okT_mn h1 h2
  have hz : okT (mn a a') (mn b b') c (mn d d') := ⟨hm.1, hm.2.1, h1.2.2.1, hm.2.2.2⟩
  have C3 := Lib.hid (check_yes hz)
  have hE1 : enV a b c d = roomV a b c := by unfold enV; rw [decide_eq_true h1]; rfl
  have hE2 : enV (mn a a') (mn b b') c (mn d d') = roomV (mn a a') (mn b b') c := by unfold enV; rw [decide_eq_true hz]; rfl
  have hroom : roomV a b c = true → roomV (mn a a') (mn b b') c = true := room_less h1.1.1 h2.1.1 h1.2.1.1 h2.2.1.1
  have E1 := enough_any a b c d
  have E2 := enough_any (mn a a') (mn b b') c (mn d d')
  rw [hE1] at E1
  rw [hE2] at E2
  have M := least_any a b c d a' b' c' d'
  generalize dl (at4 a b c d) (at4 a' b' c' d') 4 = L at *
  generalize pl (at4 a' b' c' d') 4 = L2 at *
  generalize hn : L.length = n at *
  generalize mn a a' = m0 at *
  generalize mn b b' = m1 at *
  generalize mn c c' = m2 at *
  generalize mn d d' = m3 at *
  generalize roomV a b c = r1 at *
  generalize roomV m0 m1 c = r2 at *
  dsimp only at *
  replace D := Lib.hid D
  replace A1 := Lib.hid A1
  replace A2 := Lib.hid A2
  replace A3 := Lib.hid A3
  replace E1 := Lib.hid E1
  replace E2 := Lib.hid E2
  replace P := Lib.hid P
  replace M := Lib.hid M
  replace hN := Lib.hid hN
  replace hroom := Lib.hid hroom
  clear h1 h2 hm hz hE1 hE2 hn
  go_enter Try.func3, Try.ntmps3
  go_wp2
  have h2 := blk_old (o := .cells #[.int .i64 a', .int .i64 b', .int .i64 c', .int .i64 d'] 23) (blk_new (w := w) (o := .cells #[.int .i64 a, .int .i64 b, .int .i64 c, .int .i64 d] 23) rfl)
  have h3 := blk_new (w := w.alloc (.cells #[.int .i64 a, .int .i64 b, .int .i64 c, .int .i64 d] 23)) (o := .cells #[.int .i64 a', .int .i64 b', .int .i64 c', .int .i64 d'] 23) (n := w.heap.size + 1) (by simp)
  have B1 := bta (bta (Below.refl w.heap.size w) (.cells #[.int .i64 a, .int .i64 b, .int .i64 c, .int .i64 d] 23)) (.cells #[.int .i64 a', .int .i64 b', .int .i64 c', .int .i64 d'] 23)
  generalize (w.alloc (.cells #[.int .i64 a, .int .i64 b, .int .i64 c, .int .i64 d] 23)).alloc (.cells #[.int .i64 a', .int .i64 b', .int .i64 c', .int .i64 d'] 23) = w1 at *
  obtain ⟨a0, a1, a2, a3, a4, a5, a6, a7, a8⟩ := cells4 h2
  obtain ⟨b0, b1, b2, b3, b4, b5, b6, b7, b8⟩ := cells4 h3
  refine wp_soft2 6 ⟨2, 5, fun b => .pointer (some ⟨b, 0, none⟩), obj24 0 0 0 0, some 4, obj24 a b c d⟩ ⟨3, 6, fun b => .pointer (some ⟨b, 0, none⟩), obj24 0 0 0 0, some 5, obj24 a' b' c' d'⟩ (by kernel_rfl) (by kernel_rfl) (tail_end (by kernel_rfl)) ?_
  simp only [List.take_succ_cons, List.take_zero]
  repeat (first | (refine softLex_step (by rfl) (by rfl) (fun K hK => ?_); go_simp; (refine hK _ ?_; clear hK K)))
  refine softLex_new _ rfl rfl rfl (fun y => by go_simp; rfl) ?_
  refine softLex_new _ rfl rfl rfl (fun y => by go_simp; rfl) ?_
  refine softLex_fill _ rfl rfl rfl rfl (fun y b hb => ?_) ?_
  · unfold obj24 at hb
    obtain ⟨e0, e1, e2, e3, _, _, _, _, _⟩ := cells4 hb
    have e4 := blk_free hb 0
    have e5 := blk_free hb 1
    have e6 := blk_free hb 2
    have e7 := blk_free hb 3
    refine ⟨_, ?_, ((((Turned.refl hb).setCell 0 _).setCell 1 _).setCell 2 _).setCell 3 _⟩
    go_simp
  refine softLex_fill _ rfl rfl rfl rfl (fun y b hb => ?_) ?_
  · unfold obj24 at hb
    obtain ⟨e0, e1, e2, e3, _, _, _, _, _⟩ := cells4 hb
    have e4 := blk_free hb 0
    have e5 := blk_free hb 1
    have e6 := blk_free hb 2
    have e7 := blk_free hb 3
    refine ⟨_, ?_, ((((Turned.refl hb).setCell 0 _).setCell 1 _).setCell 2 _).setCell 3 _⟩
    go_simp
  refine softLex_nil ?_
  intro w2 p5 p6 hb2 hp5 hp6 hp56 h5 h6
  have h5 : w2.heap[p5]? = some (.cells #[.int .i64 a, .int .i64 b, .int .i64 c, .int .i64 d] 24 (0, 0)) := h5
  have h6 : w2.heap[p6]? = some (.cells #[.int .i64 a', .int .i64 b', .int .i64 c', .int .i64 d'] 24 (0, 0)) := h6
  have B2 := bt B1 hb2
  clear B1 hb2 hp5 hp6 hp56 h2 h3 a0 a1 a2 a3 a4 a5 a6 a7 a8 b0 b1 b2 b3 b4 b5 b6 b7 b8
  obtain ⟨a0, a1, a2, a3, a4, a5, a6, a7, a8⟩ := cells4 h5
  obtain ⟨b0, b1, b2, b3, b4, b5, b6, b7, b8⟩ := cells4 h6
  go_wp2_with (first
    | ((with_reducible refine (C1.out _).mono ?_); rintro e w3 ⟨rfl, hb⟩; replace h5 := blk_grow hb h5; replace h6 := blk_grow hb h6; have B3 := bt B2 hb; clear hb a0 a1 a2 a3 a4 a5 a6 a7 a8 b0 b1 b2 b3 b4 b5 b6 b7 b8; obtain ⟨a0, a1, a2, a3, a4, a5, a6, a7, a8⟩ := cells4 h5; obtain ⟨b0, b1, b2, b3, b4, b5, b6, b7, b8⟩ := cells4 h6)
    | ((with_reducible refine (C2.out _).mono ?_); rintro e w4 ⟨rfl, hb⟩; replace h5 := blk_grow hb h5; replace h6 := blk_grow hb h6; have B4 := bt B3 hb; clear hb a0 a1 a2 a3 a4 a5 a6 a7 a8 b0 b1 b2 b3 b4 b5 b6 b7 b8; obtain ⟨a0, a1, a2, a3, a4, a5, a6, a7, a8⟩ := cells4 h5; obtain ⟨b0, b1, b2, b3, b4, b5, b6, b7, b8⟩ := cells4 h6)
    | ((with_reducible refine (D.out _).mono ?_); rintro e w5 ⟨x, k, rfl, hb, hp⟩; replace h5 := blk_grow hb h5; replace h6 := blk_grow hb h6; have B5 := bt B4 hb; have HP5 := Lib.hid hp; clear hp; clear hb a0 a1 a2 a3 a4 a5 a6 a7 a8 b0 b1 b2 b3 b4 b5 b6 b7 b8; obtain ⟨a0, a1, a2, a3, a4, a5, a6, a7, a8⟩ := cells4 h5; obtain ⟨b0, b1, b2, b3, b4, b5, b6, b7, b8⟩ := cells4 h6)
    | ((with_reducible refine (A1.out _ _ _ HP5.out (by omega)).mono ?_); rintro e w6 ⟨rfl, hb⟩; replace h5 := blk_grow hb h5; replace h6 := blk_grow hb h6; have HP6 := Lib.hid (HP5.out.below hb); have B6 := bt B5 hb; clear hb a0 a1 a2 a3 a4 a5 a6 a7 a8 b0 b1 b2 b3 b4 b5 b6 b7 b8; obtain ⟨a0, a1, a2, a3, a4, a5, a6, a7, a8⟩ := cells4 h5; obtain ⟨b0, b1, b2, b3, b4, b5, b6, b7, b8⟩ := cells4 h6)
    | ((with_reducible refine (A2.out _ _ _ (HP6.out.below ((Below.refl _ _).alloc (Nat.le_refl _) _)) (by omega)).mono ?_); rintro e w7 ⟨rfl, hb⟩; replace h5 := blk_grow hb (blk_old h5); replace h6 := blk_grow hb (blk_old h6); have h8 := blk_grow hb (blk_new rfl); have B7 := bt (bta B6 _) hb; generalize w6.heap.size = p8 at *; clear hb a0 a1 a2 a3 a4 a5 a6 a7 a8 b0 b1 b2 b3 b4 b5 b6 b7 b8; obtain ⟨a0, a1, a2, a3, a4, a5, a6, a7, a8⟩ := cells4 h5; obtain ⟨b0, b1, b2, b3, b4, b5, b6, b7, b8⟩ := cells4 h6)
    | ((with_reducible refine (M.out _).mono ?_); rintro e w8 ⟨rfl, hb⟩; replace h5 := blk_grow hb (blk_old h5); replace h6 := blk_grow hb (blk_old h6); replace h8 := blk_grow hb (blk_old h8); have h10 := blk_grow hb (blk_new rfl); have B8 := bt (bta B7 _) hb; generalize w7.heap.size = p10 at *; clear hb a0 a1 a2 a3 a4 a5 a6 a7 a8 b0 b1 b2 b3 b4 b5 b6 b7 b8; obtain ⟨a0, a1, a2, a3, a4, a5, a6, a7, a8⟩ := cells4 h5; obtain ⟨b0, b1, b2, b3, b4, b5, b6, b7, b8⟩ := cells4 h6))
  clear D A1 A2 M HP5 HP6 B7 B6 B5 B4 B3 B2
  replace h5 := blk_old (o := .cells #[.int .i64 m0, .int .i64 m1, .int .i64 c, .int .i64 m3] 24) h5
  replace h6 := blk_old (o := .cells #[.int .i64 m0, .int .i64 m1, .int .i64 c, .int .i64 m3] 24) h6
  replace h8 := blk_old (o := .cells #[.int .i64 m0, .int .i64 m1, .int .i64 c, .int .i64 m3] 24) h8
  replace h10 := blk_old (o := .cells #[.int .i64 m0, .int .i64 m1, .int .i64 c, .int .i64 m3] 24) h10
  have h12 := blk_new (w := w8) (o := .cells #[.int .i64 m0, .int .i64 m1, .int .i64 c, .int .i64 m3] 24) rfl
  have B9 := bta B8 (.cells #[.int .i64 m0, .int .i64 m1, .int .i64 c, .int .i64 m3] 24)
  generalize w8.heap.size = p12 at *
  generalize w8.alloc (.cells #[.int .i64 m0, .int .i64 m1, .int .i64 c, .int .i64 m3] 24) = w9 at *
  clear B8 a0 a1 a2 a3 a4 a5 a6 a7 a8 b0 b1 b2 b3 b4 b5 b6 b7 b8
  obtain ⟨a0, a1, a2, a3, a4, a5, a6, a7, a8⟩ := cells4 h5
  obtain ⟨b0, b1, b2, b3, b4, b5, b6, b7, b8⟩ := cells4 h6
  refine wp_open (X := Option Addr × Nat) 10 [⟨7, 13, fun b => .pointer (some ⟨b, 0, none⟩), obj24 0 0 0 0, some 8, obj24 a' b' c' d'⟩]
    [⟨2, fun x => .slice x.1 4 x.2, fun x W => W.ownsRow 0 39 2 (.slice x.1 4 x.2) 4 (prsL L2)⟩,
     ⟨3, fun _ => .tuple #[.agg #[.int .i64 a', .int .i64 b', .int .i64 c', .int .i64 d'], .int .u32 0], fun _ _ => True⟩]
    (by kernel_rfl) (by kernel_rfl) (by kernel_rfl) ?_ ?_ ?_ (tail_end (by kernel_rfl)) (fun vs => ?_)
  · simp
  · simp only [List.mem_cons, List.mem_nil_iff, or_false]
    rintro e (rfl | rfl) x w' w'' _ h hb
    · exact own_below h hb
    · trivial
  · simp only [List.mem_cons, List.mem_nil_iff, or_false]
    rintro e (rfl | rfl) y rfl x w' w'' b _ h hb ht
    · exact own_turned h hb (by decide) ht
    · trivial
  simp only [List.take_succ_cons, List.take_zero]
  repeat (refine openLex_plain (by rfl) (by rfl) (by rfl) (fun K hK => ?_); go_simp; refine hK _ ?_; clear hK K)
  refine openLex_call _ rfl rfl rfl rfl (fun y _ => ?_) ?_
  · go_simp
    refine (P.out _).mono ?_
    rintro e w' ⟨v, rfl, hb, ho⟩
    obtain ⟨x, k, rfl, _⟩ := own_prs (l := L2) (by rw [hL2]; exact ho)
    rw [hL2] at ho ⊢
    exact ⟨x, k, rfl, hb, own_lower ho (Nat.zero_le _)⟩
  refine openLex_call _ rfl rfl rfl rfl (fun y hk => ?_) ?_
  · have hk := hk _ (List.mem_cons_self ..) (List.contains_iff_mem.1 (by kernel_rfl))
    obtain ⟨x, k, hv, hp⟩ := own_prs (l := L2) (by rw [hL2]; exact hk)
    rw [hL2] at hv
    go_simp
    refine (A3.out _ _ _ hp (by decide)).mono ?_
    rintro e w' ⟨rfl, hb⟩
    exact ⟨rfl, hb⟩
  repeat (refine openLex_plain (by rfl) (by rfl) (by rfl) (fun K hK => ?_); go_simp; refine hK _ ?_; clear hK K)
  refine openLex_new _ rfl rfl rfl (fun y => by go_simp; rfl) ?_
  refine openLex_fill _ rfl rfl rfl rfl (fun y b hb => ?_) ?_
  · unfold obj24 at hb
    obtain ⟨e0, e1, e2, e3, _, _, _, _, _⟩ := cells4 hb
    have e4 := blk_free hb 0
    have e5 := blk_free hb 1
    have e6 := blk_free hb 2
    have e7 := blk_free hb 3
    refine ⟨_, ?_, ((((Turned.refl hb).setCell 0 _).setCell 1 _).setCell 2 _).setCell 3 _⟩
    go_simp
  repeat (refine openLex_plain (by rfl) (by rfl) (by rfl) (fun K hK => ?_); go_simp; refine hK _ ?_; clear hK K)
  refine openLex_nil ?_
  intro w10 β hb hβ _ _
  have h13 := (hβ _ (List.mem_cons_self ..)).2
  have h13 : w10.heap[β 7]? = some (.cells #[.int .i64 a', .int .i64 b', .int .i64 c', .int .i64 d'] 24 (0, 0)) := h13
  simp only [putAll]
  generalize β 7 = p13 at *
  generalize (vs 2).1 = x1 at *
  generalize (vs 2).2 = k1 at *
  have B10 := bt B9 hb
  replace h5 := blk_grow hb h5
  replace h6 := blk_grow hb h6
  replace h8 := blk_grow hb h8
  replace h10 := blk_grow hb h10
  replace h12 := blk_grow hb h12
  clear B9 hb hβ A3 P a0 a1 a2 a3 a4 a5 a6 a7 a8 b0 b1 b2 b3 b4 b5 b6 b7 b8
  obtain ⟨a0, a1, a2, a3, a4, a5, a6, a7, a8⟩ := cells4 h5; obtain ⟨b0, b1, b2, b3, b4, b5, b6, b7, b8⟩ := cells4 h6; obtain ⟨c0, c1, c2, c3, c4, c5, c6, c7, c8⟩ := cells4 h8; obtain ⟨d0, d1, d2, d3, d4, d5, d6, d7, d8⟩ := cells4 h10; obtain ⟨e0, e1, e2, e3, e4, e5, e6, e7, e8⟩ := cells4 h12; obtain ⟨f0, f1, f2, f3, f4, f5, f6, f7, f8⟩ := cells4 h13
  have hx : (n = 0 ∧ a = a' ∧ b = b' ∧ c = c' ∧ d = d') ∨ (¬ ((n : Int) = 0) ∧ ((n : Int) == 0) = false ∧ (decide (a = a') && (decide (b = b') && (decide (c = c') && decide (d = d')))) = false) := by
    by_cases e : n = 0
    · have := hN.out.1 e
      simp only [Prod.mk.injEq] at this
      exact .inl ⟨e, this⟩
    · refine .inr ⟨by omega, by simpa using e, ?_⟩
      have : ¬ (a, b, c, d) = (a', b', c', d') := fun h => e (hN.out.2 h)
      by_cases h1 : a = a' <;> by_cases h2 : b = b' <;> by_cases h3 : c = c' <;> by_cases h4 : d = d' <;> simp_all
  have hr : r1 = false ∨ (r1 = true ∧ r2 = true) := by
    cases r1
    · exact .inl rfl
    · exact .inr ⟨rfl, hroom.out rfl⟩
  clear hN hroom
  rcases hr with rfl | ⟨rfl, rfl⟩
  all_goals rcases hx with ⟨rfl, rfl, rfl, rfl, rfl⟩ | ⟨hn0, hn1, hE⟩
  all_goals go_wp2_with (first
    | ((with_reducible refine (E1.out _).mono ?_); rintro e w11 ⟨rfl, hb⟩; replace h5 := blk_grow hb h5; replace h6 := blk_grow hb h6; replace h8 := blk_grow hb h8; replace h10 := blk_grow hb h10; replace h12 := blk_grow hb h12; replace h13 := blk_grow hb h13;  have B11 := bt B10 hb; clear hb B10 a0 a1 a2 a3 a4 a5 a6 a7 a8 b0 b1 b2 b3 b4 b5 b6 b7 b8 c0 c1 c2 c3 c4 c5 c6 c7 c8 d0 d1 d2 d3 d4 d5 d6 d7 d8 e0 e1 e2 e3 e4 e5 e6 e7 e8 f0 f1 f2 f3 f4 f5 f6 f7 f8; obtain ⟨a0, a1, a2, a3, a4, a5, a6, a7, a8⟩ := cells4 h5; obtain ⟨b0, b1, b2, b3, b4, b5, b6, b7, b8⟩ := cells4 h6; obtain ⟨c0, c1, c2, c3, c4, c5, c6, c7, c8⟩ := cells4 h8; obtain ⟨d0, d1, d2, d3, d4, d5, d6, d7, d8⟩ := cells4 h10; obtain ⟨e0, e1, e2, e3, e4, e5, e6, e7, e8⟩ := cells4 h12; obtain ⟨f0, f1, f2, f3, f4, f5, f6, f7, f8⟩ := cells4 h13)
    | ((with_reducible refine (E2.out _).mono ?_); rintro e w11 ⟨rfl, hb⟩; replace h5 := blk_grow hb h5; replace h6 := blk_grow hb h6; replace h8 := blk_grow hb h8; replace h10 := blk_grow hb h10; replace h12 := blk_grow hb h12; replace h13 := blk_grow hb h13;  replace B11 := bt B11 hb; clear hb a0 a1 a2 a3 a4 a5 a6 a7 a8 b0 b1 b2 b3 b4 b5 b6 b7 b8 c0 c1 c2 c3 c4 c5 c6 c7 c8 d0 d1 d2 d3 d4 d5 d6 d7 d8 e0 e1 e2 e3 e4 e5 e6 e7 e8 f0 f1 f2 f3 f4 f5 f6 f7 f8; obtain ⟨a0, a1, a2, a3, a4, a5, a6, a7, a8⟩ := cells4 h5; obtain ⟨b0, b1, b2, b3, b4, b5, b6, b7, b8⟩ := cells4 h6; obtain ⟨c0, c1, c2, c3, c4, c5, c6, c7, c8⟩ := cells4 h8; obtain ⟨d0, d1, d2, d3, d4, d5, d6, d7, d8⟩ := cells4 h10; obtain ⟨e0, e1, e2, e3, e4, e5, e6, e7, e8⟩ := cells4 h12; obtain ⟨f0, f1, f2, f3, f4, f5, f6, f7, f8⟩ := cells4 h13)
    | ((with_reducible refine (C3.out _).mono ?_); rintro e w12 ⟨rfl, hb⟩; have B12 := bt B11 hb; clear hb B11)
    | ((with_reducible refine (awake_any _).mono ?_); rintro e w13 ⟨rfl, hb⟩; have B13 := bt B12 hb; clear hb B12))
  all_goals go_returns
  all_goals exact ⟨rfl, B13⟩

theorem back_any (a b c d a' b' c' d' : Int) (w : World) :
    Calls Try.prog 3 #[.agg #[.int .i64 a, .int .i64 b, .int .i64 c, .int .i64 d], .agg #[.int .i64 a', .int .i64 b', .int .i64 c', .int .i64 d']] w fun e w' => e = .returned (.bool true) ∧ Below w.heap.size w w' := by
  by_cases h : okT a b c d ∧ okT a' b' c' d'
  · exact back_yes a b c d a' b' c' d' w h.1 h.2
  · exact back_no a b c d a' b' c' d' w h
end Go.Proofs.Ytgjajliiichfmaa
