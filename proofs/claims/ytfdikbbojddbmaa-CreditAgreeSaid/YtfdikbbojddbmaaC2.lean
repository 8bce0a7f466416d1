/- The contracts of the other functions on ledgers, of both packages: each returns what is said of the four numbers, and leaves all memory that stood before as it was. -/
import Derived.Test.YtfdikbbojddbmaaC1
namespace Go.Proofs.Ytfdikbbojddbmaa
open Go.RowKit
attribute [local go_sem] cell_over frozen_over lt_over le_over ne_over over_ne cell_set_same

theorem bov {a b : World} (h : Below a.heap.size a b) (x : World) : Below a.heap.size a (over b x) := bt h (over_below b x)

theorem free_yes {a b c d : Int} (h : okL a b c d) (w : World) :
    Calls Try.prog 13 #[.agg #[.int .i64 a, .int .i64 b, .int .i64 c, .int .i64 d]] w fun e w' => e = .returned (.int .i64 (b - c)) ∧ Below w.heap.size w w' := by
  have := free_any a b c d w
  unfold freeV at this
  rwa [if_pos h] at this
theorem free_no {a b c d : Int} (h : ¬ okL a b c d) (w : World) :
    Calls Try.prog 13 #[.agg #[.int .i64 a, .int .i64 b, .int .i64 c, .int .i64 d]] w fun e w' => e = .returned (.int .i64 0) ∧ Below w.heap.size w w' := by
  have := free_any a b c d w
  unfold freeV at this
  rwa [if_neg h] at this

set_option maxHeartbeats 1000000 in
theorem rfree_yes {a b c d : Int} (h : okL a b c d)  (w : World) :
    Calls Try.prog 14 #[.agg #[.int .i64 a, .int .i64 b, .int .i64 c, .int .i64 d]] w fun e w' => e = .returned (.int .i64 (b - c)) ∧ Below w.heap.size w w' := by
  have H := Lib.hid h
  unfold okL at h
  obtain ⟨h1, h2, h3, h4, h5, h6⟩ := h
  have h7 : 0 ≤ c := by omega
  have h8 : 0 ≤ b := by omega
  go_enter Try.func14, Try.ntmps14
  go_wp2_with (first | ((with_reducible refine (rcheck_yes H.out _).mono ?_); rintro e w1 ⟨rfl, hb1⟩; (first | obtain ⟨x1, rfl⟩ := as_over2 hb1 | obtain ⟨x1, rfl⟩ := as_over hb1); clear hb1))
  all_goals go_returns
  all_goals first | refine ⟨rfl, ?_⟩ | (refine And.intro rfl ?_)
  all_goals repeat (first | (with_reducible exact Below.refl _ _) | (with_reducible refine bov ?_ _) | (with_reducible refine bta ?_ _) | (with_reducible refine Below.setCell ?_ (by simp) _))

set_option maxHeartbeats 1000000 in
theorem rfree_no {a b c d : Int} (h : ¬ okL a b c d)  (w : World) :
    Calls Try.prog 14 #[.agg #[.int .i64 a, .int .i64 b, .int .i64 c, .int .i64 d]] w fun e w' => e = .returned (.int .i64 0) ∧ Below w.heap.size w w' := by
  have H := Lib.hid h
  clear h
  go_enter Try.func14, Try.ntmps14
  go_wp2_with (first | ((with_reducible refine (rcheck_no H.out _).mono ?_); rintro e w1 ⟨rfl, hb1⟩; (first | obtain ⟨x1, rfl⟩ := as_over2 hb1 | obtain ⟨x1, rfl⟩ := as_over hb1); clear hb1))
  all_goals go_returns
  all_goals first | refine ⟨rfl, ?_⟩ | (refine And.intro rfl ?_)
  all_goals repeat (first | (with_reducible exact Below.refl _ _) | (with_reducible refine bov ?_ _) | (with_reducible refine bta ?_ _) | (with_reducible refine Below.setCell ?_ (by simp) _))

set_option maxHeartbeats 1000000 in
theorem spend_yes {a b c d n : Int} (h : okL a b c d) (g1 : 0 ≤ n) (g2 : n ≤ b - c) (w : World) :
    Calls Try.prog 17 #[.agg #[.int .i64 a, .int .i64 b, .int .i64 c, .int .i64 d], .int .i64 n] w fun e w' => e = .returned (.tuple #[.agg #[.int .i64 a, .int .i64 b, .int .i64 (c + n), .int .i64 d], .bool true]) ∧ Below w.heap.size w w' := by
  have H := Lib.hid h
  unfold okL at h
  obtain ⟨h1, h2, h3, h4, h5, h6⟩ := h
  have h7 : 0 ≤ c := by omega
  have h8 : 0 ≤ b := by omega
  go_enter Try.func17, Try.ntmps17
  go_wp2_with (first | ((with_reducible refine (check_yes H.out _).mono ?_); rintro e w1 ⟨rfl, hb1⟩; (first | obtain ⟨x1, rfl⟩ := as_over2 hb1 | obtain ⟨x1, rfl⟩ := as_over hb1); clear hb1) | ((with_reducible refine (free_yes H.out _).mono ?_); rintro e w2 ⟨rfl, hb2⟩; (first | obtain ⟨x2, rfl⟩ := as_over2 hb2 | obtain ⟨x2, rfl⟩ := as_over hb2); clear hb2))
  all_goals go_returns
  all_goals first | refine ⟨rfl, ?_⟩ | (refine And.intro rfl ?_)
  all_goals repeat (first | (with_reducible exact Below.refl _ _) | (with_reducible refine bov ?_ _) | (with_reducible refine bta ?_ _) | (with_reducible refine Below.setCell ?_ (by simp) _))

set_option maxHeartbeats 1000000 in
theorem spend_neg {a b c d n : Int} (h : okL a b c d) (g1 : n < 0) (w : World) :
    Calls Try.prog 17 #[.agg #[.int .i64 a, .int .i64 b, .int .i64 c, .int .i64 d], .int .i64 n] w fun e w' => e = .returned (.tuple #[.agg #[.int .i64 a, .int .i64 b, .int .i64 c, .int .i64 d], .bool false]) ∧ Below w.heap.size w w' := by
  have H := Lib.hid h
  unfold okL at h
  obtain ⟨h1, h2, h3, h4, h5, h6⟩ := h
  have h7 : 0 ≤ c := by omega
  have h8 : 0 ≤ b := by omega
  go_enter Try.func17, Try.ntmps17
  go_wp2_with (first | ((with_reducible refine (check_yes H.out _).mono ?_); rintro e w1 ⟨rfl, hb1⟩; (first | obtain ⟨x1, rfl⟩ := as_over2 hb1 | obtain ⟨x1, rfl⟩ := as_over hb1); clear hb1) | ((with_reducible refine (free_yes H.out _).mono ?_); rintro e w2 ⟨rfl, hb2⟩; (first | obtain ⟨x2, rfl⟩ := as_over2 hb2 | obtain ⟨x2, rfl⟩ := as_over hb2); clear hb2))
  all_goals go_returns
  all_goals first | refine ⟨rfl, ?_⟩ | (refine And.intro rfl ?_)
  all_goals repeat (first | (with_reducible exact Below.refl _ _) | (with_reducible refine bov ?_ _) | (with_reducible refine bta ?_ _) | (with_reducible refine Below.setCell ?_ (by simp) _))

set_option maxHeartbeats 1000000 in
theorem spend_more {a b c d n : Int} (h : okL a b c d) (g0 : 0 ≤ n) (g1 : b - c < n) (w : World) :
    Calls Try.prog 17 #[.agg #[.int .i64 a, .int .i64 b, .int .i64 c, .int .i64 d], .int .i64 n] w fun e w' => e = .returned (.tuple #[.agg #[.int .i64 a, .int .i64 b, .int .i64 c, .int .i64 d], .bool false]) ∧ Below w.heap.size w w' := by
  have H := Lib.hid h
  unfold okL at h
  obtain ⟨h1, h2, h3, h4, h5, h6⟩ := h
  have h7 : 0 ≤ c := by omega
  have h8 : 0 ≤ b := by omega
  go_enter Try.func17, Try.ntmps17
  go_wp2_with (first | ((with_reducible refine (check_yes H.out _).mono ?_); rintro e w1 ⟨rfl, hb1⟩; (first | obtain ⟨x1, rfl⟩ := as_over2 hb1 | obtain ⟨x1, rfl⟩ := as_over hb1); clear hb1) | ((with_reducible refine (free_yes H.out _).mono ?_); rintro e w2 ⟨rfl, hb2⟩; (first | obtain ⟨x2, rfl⟩ := as_over2 hb2 | obtain ⟨x2, rfl⟩ := as_over hb2); clear hb2))
  all_goals go_returns
  all_goals first | refine ⟨rfl, ?_⟩ | (refine And.intro rfl ?_)
  all_goals repeat (first | (with_reducible exact Below.refl _ _) | (with_reducible refine bov ?_ _) | (with_reducible refine bta ?_ _) | (with_reducible refine Below.setCell ?_ (by simp) _))

set_option maxHeartbeats 1000000 in
theorem spend_no {a b c d n : Int} (h : ¬ okL a b c d)  (w : World) :
    Calls Try.prog 17 #[.agg #[.int .i64 a, .int .i64 b, .int .i64 c, .int .i64 d], .int .i64 n] w fun e w' => e = .returned (.tuple #[.agg #[.int .i64 a, .int .i64 b, .int .i64 c, .int .i64 d], .bool false]) ∧ Below w.heap.size w w' := by
  have H := Lib.hid h
  clear h
  go_enter Try.func17, Try.ntmps17
  go_wp2_with (first | ((with_reducible refine (check_no H.out _).mono ?_); rintro e w1 ⟨rfl, hb1⟩; (first | obtain ⟨x1, rfl⟩ := as_over2 hb1 | obtain ⟨x1, rfl⟩ := as_over hb1); clear hb1) | ((with_reducible refine (free_no H.out _).mono ?_); rintro e w2 ⟨rfl, hb2⟩; (first | obtain ⟨x2, rfl⟩ := as_over2 hb2 | obtain ⟨x2, rfl⟩ := as_over hb2); clear hb2))
  all_goals go_returns
  all_goals first | refine ⟨rfl, ?_⟩ | (refine And.intro rfl ?_)
  all_goals repeat (first | (with_reducible exact Below.refl _ _) | (with_reducible refine bov ?_ _) | (with_reducible refine bta ?_ _) | (with_reducible refine Below.setCell ?_ (by simp) _))

set_option maxHeartbeats 1000000 in
theorem rspend_yes {a b c d n : Int} (h : okL a b c d) (g1 : 0 ≤ n) (g2 : n ≤ b - c) (w : World) :
    Calls Try.prog 18 #[.agg #[.int .i64 a, .int .i64 b, .int .i64 c, .int .i64 d], .int .i64 n] w fun e w' => e = .returned (.tuple #[.agg #[.int .i64 a, .int .i64 b, .int .i64 (c + n), .int .i64 d], .bool true]) ∧ Below w.heap.size w w' := by
  have H := Lib.hid h
  unfold okL at h
  obtain ⟨h1, h2, h3, h4, h5, h6⟩ := h
  have h7 : 0 ≤ c := by omega
  have h8 : 0 ≤ b := by omega
  go_enter Try.func18, Try.ntmps18
  go_wp2_with (first | ((with_reducible refine (rcheck_yes H.out _).mono ?_); rintro e w1 ⟨rfl, hb1⟩; (first | obtain ⟨x1, rfl⟩ := as_over2 hb1 | obtain ⟨x1, rfl⟩ := as_over hb1); clear hb1) | ((with_reducible refine (rfree_yes H.out _).mono ?_); rintro e w2 ⟨rfl, hb2⟩; (first | obtain ⟨x2, rfl⟩ := as_over2 hb2 | obtain ⟨x2, rfl⟩ := as_over hb2); clear hb2))
  all_goals go_returns
  all_goals first | refine ⟨rfl, ?_⟩ | (refine And.intro rfl ?_)
  all_goals repeat (first | (with_reducible exact Below.refl _ _) | (with_reducible refine bov ?_ _) | (with_reducible refine bta ?_ _) | (with_reducible refine Below.setCell ?_ (by simp) _))

set_option maxHeartbeats 1000000 in
theorem rspend_neg {a b c d n : Int} (h : okL a b c d) (g1 : n < 0) (w : World) :
    Calls Try.prog 18 #[.agg #[.int .i64 a, .int .i64 b, .int .i64 c, .int .i64 d], .int .i64 n] w fun e w' => e = .returned (.tuple #[.agg #[.int .i64 a, .int .i64 b, .int .i64 c, .int .i64 d], .bool false]) ∧ Below w.heap.size w w' := by
  have H := Lib.hid h
  unfold okL at h
  obtain ⟨h1, h2, h3, h4, h5, h6⟩ := h
  have h7 : 0 ≤ c := by omega
  have h8 : 0 ≤ b := by omega
  go_enter Try.func18, Try.ntmps18
  go_wp2_with (first | ((with_reducible refine (rcheck_yes H.out _).mono ?_); rintro e w1 ⟨rfl, hb1⟩; (first | obtain ⟨x1, rfl⟩ := as_over2 hb1 | obtain ⟨x1, rfl⟩ := as_over hb1); clear hb1) | ((with_reducible refine (rfree_yes H.out _).mono ?_); rintro e w2 ⟨rfl, hb2⟩; (first | obtain ⟨x2, rfl⟩ := as_over2 hb2 | obtain ⟨x2, rfl⟩ := as_over hb2); clear hb2))
  all_goals go_returns
  all_goals first | refine ⟨rfl, ?_⟩ | (refine And.intro rfl ?_)
  all_goals repeat (first | (with_reducible exact Below.refl _ _) | (with_reducible refine bov ?_ _) | (with_reducible refine bta ?_ _) | (with_reducible refine Below.setCell ?_ (by simp) _))

set_option maxHeartbeats 1000000 in
theorem rspend_more {a b c d n : Int} (h : okL a b c d) (g0 : 0 ≤ n) (g1 : b - c < n) (w : World) :
    Calls Try.prog 18 #[.agg #[.int .i64 a, .int .i64 b, .int .i64 c, .int .i64 d], .int .i64 n] w fun e w' => e = .returned (.tuple #[.agg #[.int .i64 a, .int .i64 b, .int .i64 c, .int .i64 d], .bool false]) ∧ Below w.heap.size w w' := by
  have H := Lib.hid h
  unfold okL at h
  obtain ⟨h1, h2, h3, h4, h5, h6⟩ := h
  have h7 : 0 ≤ c := by omega
  have h8 : 0 ≤ b := by omega
  go_enter Try.func18, Try.ntmps18
  go_wp2_with (first | ((with_reducible refine (rcheck_yes H.out _).mono ?_); rintro e w1 ⟨rfl, hb1⟩; (first | obtain ⟨x1, rfl⟩ := as_over2 hb1 | obtain ⟨x1, rfl⟩ := as_over hb1); clear hb1) | ((with_reducible refine (rfree_yes H.out _).mono ?_); rintro e w2 ⟨rfl, hb2⟩; (first | obtain ⟨x2, rfl⟩ := as_over2 hb2 | obtain ⟨x2, rfl⟩ := as_over hb2); clear hb2))
  all_goals go_returns
  all_goals first | refine ⟨rfl, ?_⟩ | (refine And.intro rfl ?_)
  all_goals repeat (first | (with_reducible exact Below.refl _ _) | (with_reducible refine bov ?_ _) | (with_reducible refine bta ?_ _) | (with_reducible refine Below.setCell ?_ (by simp) _))

set_option maxHeartbeats 1000000 in
theorem rspend_no {a b c d n : Int} (h : ¬ okL a b c d)  (w : World) :
    Calls Try.prog 18 #[.agg #[.int .i64 a, .int .i64 b, .int .i64 c, .int .i64 d], .int .i64 n] w fun e w' => e = .returned (.tuple #[.agg #[.int .i64 a, .int .i64 b, .int .i64 c, .int .i64 d], .bool false]) ∧ Below w.heap.size w w' := by
  have H := Lib.hid h
  clear h
  go_enter Try.func18, Try.ntmps18
  go_wp2_with (first | ((with_reducible refine (rcheck_no H.out _).mono ?_); rintro e w1 ⟨rfl, hb1⟩; (first | obtain ⟨x1, rfl⟩ := as_over2 hb1 | obtain ⟨x1, rfl⟩ := as_over hb1); clear hb1) | ((with_reducible refine (rfree_no H.out _).mono ?_); rintro e w2 ⟨rfl, hb2⟩; (first | obtain ⟨x2, rfl⟩ := as_over2 hb2 | obtain ⟨x2, rfl⟩ := as_over hb2); clear hb2))
  all_goals go_returns
  all_goals first | refine ⟨rfl, ?_⟩ | (refine And.intro rfl ?_)
  all_goals repeat (first | (with_reducible exact Below.refl _ _) | (with_reducible refine bov ?_ _) | (with_reducible refine bta ?_ _) | (with_reducible refine Below.setCell ?_ (by simp) _))

set_option maxHeartbeats 1000000 in
theorem given_yes {a b c d n : Int} (h : okL a b c d) (g1 : 1 ≤ n) (g2 : n ≤ 1099511627776 - b) (w : World) :
    Calls Try.prog 25 #[.agg #[.int .i64 a, .int .i64 b, .int .i64 c, .int .i64 d], .int .i64 n] w fun e w' => e = .returned (.tuple #[.agg #[.int .i64 a, .int .i64 (b + n), .int .i64 c, .int .i64 d], .bool true]) ∧ Below w.heap.size w w' := by
  have H := Lib.hid h
  unfold okL at h
  obtain ⟨h1, h2, h3, h4, h5, h6⟩ := h
  have h7 : 0 ≤ c := by omega
  have h8 : 0 ≤ b := by omega
  go_enter Try.func25, Try.ntmps25
  go_wp2_with (first | ((with_reducible refine (check_yes H.out _).mono ?_); rintro e w1 ⟨rfl, hb1⟩; (first | obtain ⟨x1, rfl⟩ := as_over2 hb1 | obtain ⟨x1, rfl⟩ := as_over hb1); clear hb1))
  all_goals go_returns
  all_goals first | refine ⟨rfl, ?_⟩ | (refine And.intro rfl ?_)
  all_goals repeat (first | (with_reducible exact Below.refl _ _) | (with_reducible refine bov ?_ _) | (with_reducible refine bta ?_ _) | (with_reducible refine Below.setCell ?_ (by simp) _))

set_option maxHeartbeats 1000000 in
theorem given_neg {a b c d n : Int} (h : okL a b c d) (g1 : n < 1) (w : World) :
    Calls Try.prog 25 #[.agg #[.int .i64 a, .int .i64 b, .int .i64 c, .int .i64 d], .int .i64 n] w fun e w' => e = .returned (.tuple #[.agg #[.int .i64 a, .int .i64 b, .int .i64 c, .int .i64 d], .bool false]) ∧ Below w.heap.size w w' := by
  have H := Lib.hid h
  unfold okL at h
  obtain ⟨h1, h2, h3, h4, h5, h6⟩ := h
  have h7 : 0 ≤ c := by omega
  have h8 : 0 ≤ b := by omega
  go_enter Try.func25, Try.ntmps25
  go_wp2_with (first | ((with_reducible refine (check_yes H.out _).mono ?_); rintro e w1 ⟨rfl, hb1⟩; (first | obtain ⟨x1, rfl⟩ := as_over2 hb1 | obtain ⟨x1, rfl⟩ := as_over hb1); clear hb1))
  all_goals go_returns
  all_goals first | refine ⟨rfl, ?_⟩ | (refine And.intro rfl ?_)
  all_goals repeat (first | (with_reducible exact Below.refl _ _) | (with_reducible refine bov ?_ _) | (with_reducible refine bta ?_ _) | (with_reducible refine Below.setCell ?_ (by simp) _))

set_option maxHeartbeats 1000000 in
theorem given_more {a b c d n : Int} (h : okL a b c d) (g0 : 1 ≤ n) (g1 : 1099511627776 - b < n) (w : World) :
    Calls Try.prog 25 #[.agg #[.int .i64 a, .int .i64 b, .int .i64 c, .int .i64 d], .int .i64 n] w fun e w' => e = .returned (.tuple #[.agg #[.int .i64 a, .int .i64 b, .int .i64 c, .int .i64 d], .bool false]) ∧ Below w.heap.size w w' := by
  have H := Lib.hid h
  unfold okL at h
  obtain ⟨h1, h2, h3, h4, h5, h6⟩ := h
  have h7 : 0 ≤ c := by omega
  have h8 : 0 ≤ b := by omega
  go_enter Try.func25, Try.ntmps25
  go_wp2_with (first | ((with_reducible refine (check_yes H.out _).mono ?_); rintro e w1 ⟨rfl, hb1⟩; (first | obtain ⟨x1, rfl⟩ := as_over2 hb1 | obtain ⟨x1, rfl⟩ := as_over hb1); clear hb1))
  all_goals go_returns
  all_goals first | refine ⟨rfl, ?_⟩ | (refine And.intro rfl ?_)
  all_goals repeat (first | (with_reducible exact Below.refl _ _) | (with_reducible refine bov ?_ _) | (with_reducible refine bta ?_ _) | (with_reducible refine Below.setCell ?_ (by simp) _))

set_option maxHeartbeats 1000000 in
theorem given_no {a b c d n : Int} (h : ¬ okL a b c d)  (w : World) :
    Calls Try.prog 25 #[.agg #[.int .i64 a, .int .i64 b, .int .i64 c, .int .i64 d], .int .i64 n] w fun e w' => e = .returned (.tuple #[.agg #[.int .i64 a, .int .i64 b, .int .i64 c, .int .i64 d], .bool false]) ∧ Below w.heap.size w w' := by
  have H := Lib.hid h
  clear h
  go_enter Try.func25, Try.ntmps25
  go_wp2_with (first | ((with_reducible refine (check_no H.out _).mono ?_); rintro e w1 ⟨rfl, hb1⟩; (first | obtain ⟨x1, rfl⟩ := as_over2 hb1 | obtain ⟨x1, rfl⟩ := as_over hb1); clear hb1))
  all_goals go_returns
  all_goals first | refine ⟨rfl, ?_⟩ | (refine And.intro rfl ?_)
  all_goals repeat (first | (with_reducible exact Below.refl _ _) | (with_reducible refine bov ?_ _) | (with_reducible refine bta ?_ _) | (with_reducible refine Below.setCell ?_ (by simp) _))

set_option maxHeartbeats 1000000 in
theorem rgiven_yes {a b c d n : Int} (h : okL a b c d) (g1 : 1 ≤ n) (g2 : n ≤ 1099511627776 - b) (w : World) :
    Calls Try.prog 28 #[.agg #[.int .i64 a, .int .i64 b, .int .i64 c, .int .i64 d], .int .i64 n] w fun e w' => e = .returned (.tuple #[.agg #[.int .i64 a, .int .i64 (b + n), .int .i64 c, .int .i64 d], .bool true]) ∧ Below w.heap.size w w' := by
  have H := Lib.hid h
  unfold okL at h
  obtain ⟨h1, h2, h3, h4, h5, h6⟩ := h
  have h7 : 0 ≤ c := by omega
  have h8 : 0 ≤ b := by omega
  go_enter Try.func28, Try.ntmps28
  go_wp2_with (first | ((with_reducible refine (rcheck_yes H.out _).mono ?_); rintro e w1 ⟨rfl, hb1⟩; (first | obtain ⟨x1, rfl⟩ := as_over2 hb1 | obtain ⟨x1, rfl⟩ := as_over hb1); clear hb1))
  all_goals go_returns
  all_goals first | refine ⟨rfl, ?_⟩ | (refine And.intro rfl ?_)
  all_goals repeat (first | (with_reducible exact Below.refl _ _) | (with_reducible refine bov ?_ _) | (with_reducible refine bta ?_ _) | (with_reducible refine Below.setCell ?_ (by simp) _))

set_option maxHeartbeats 1000000 in
theorem rgiven_neg {a b c d n : Int} (h : okL a b c d) (g1 : n < 1) (w : World) :
    Calls Try.prog 28 #[.agg #[.int .i64 a, .int .i64 b, .int .i64 c, .int .i64 d], .int .i64 n] w fun e w' => e = .returned (.tuple #[.agg #[.int .i64 a, .int .i64 b, .int .i64 c, .int .i64 d], .bool false]) ∧ Below w.heap.size w w' := by
  have H := Lib.hid h
  unfold okL at h
  obtain ⟨h1, h2, h3, h4, h5, h6⟩ := h
  have h7 : 0 ≤ c := by omega
  have h8 : 0 ≤ b := by omega
  go_enter Try.func28, Try.ntmps28
  go_wp2_with (first | ((with_reducible refine (rcheck_yes H.out _).mono ?_); rintro e w1 ⟨rfl, hb1⟩; (first | obtain ⟨x1, rfl⟩ := as_over2 hb1 | obtain ⟨x1, rfl⟩ := as_over hb1); clear hb1))
  all_goals go_returns
  all_goals first | refine ⟨rfl, ?_⟩ | (refine And.intro rfl ?_)
  all_goals repeat (first | (with_reducible exact Below.refl _ _) | (with_reducible refine bov ?_ _) | (with_reducible refine bta ?_ _) | (with_reducible refine Below.setCell ?_ (by simp) _))

set_option maxHeartbeats 1000000 in
theorem rgiven_more {a b c d n : Int} (h : okL a b c d) (g0 : 1 ≤ n) (g1 : 1099511627776 - b < n) (w : World) :
    Calls Try.prog 28 #[.agg #[.int .i64 a, .int .i64 b, .int .i64 c, .int .i64 d], .int .i64 n] w fun e w' => e = .returned (.tuple #[.agg #[.int .i64 a, .int .i64 b, .int .i64 c, .int .i64 d], .bool false]) ∧ Below w.heap.size w w' := by
  have H := Lib.hid h
  unfold okL at h
  obtain ⟨h1, h2, h3, h4, h5, h6⟩ := h
  have h7 : 0 ≤ c := by omega
  have h8 : 0 ≤ b := by omega
  go_enter Try.func28, Try.ntmps28
  go_wp2_with (first | ((with_reducible refine (rcheck_yes H.out _).mono ?_); rintro e w1 ⟨rfl, hb1⟩; (first | obtain ⟨x1, rfl⟩ := as_over2 hb1 | obtain ⟨x1, rfl⟩ := as_over hb1); clear hb1))
  all_goals go_returns
  all_goals first | refine ⟨rfl, ?_⟩ | (refine And.intro rfl ?_)
  all_goals repeat (first | (with_reducible exact Below.refl _ _) | (with_reducible refine bov ?_ _) | (with_reducible refine bta ?_ _) | (with_reducible refine Below.setCell ?_ (by simp) _))

set_option maxHeartbeats 1000000 in
theorem rgiven_no {a b c d n : Int} (h : ¬ okL a b c d)  (w : World) :
    Calls Try.prog 28 #[.agg #[.int .i64 a, .int .i64 b, .int .i64 c, .int .i64 d], .int .i64 n] w fun e w' => e = .returned (.tuple #[.agg #[.int .i64 a, .int .i64 b, .int .i64 c, .int .i64 d], .bool false]) ∧ Below w.heap.size w w' := by
  have H := Lib.hid h
  clear h
  go_enter Try.func28, Try.ntmps28
  go_wp2_with (first | ((with_reducible refine (rcheck_no H.out _).mono ?_); rintro e w1 ⟨rfl, hb1⟩; (first | obtain ⟨x1, rfl⟩ := as_over2 hb1 | obtain ⟨x1, rfl⟩ := as_over hb1); clear hb1))
  all_goals go_returns
  all_goals first | refine ⟨rfl, ?_⟩ | (refine And.intro rfl ?_)
  all_goals repeat (first | (with_reducible exact Below.refl _ _) | (with_reducible refine bov ?_ _) | (with_reducible refine bta ?_ _) | (with_reducible refine Below.setCell ?_ (by simp) _))

end Go.Proofs.Ytfdikbbojddbmaa
