/- The contracts of Reach, Eat and Grant on ledgers, of both packages: each returns what is said of the four numbers, and leaves all memory that stood before as it was. -/
import Derived.Test.YtfdikbbojddbmaaC2
namespace Go.Proofs.Ytfdikbbojddbmaa
open Go.RowKit
attribute [local go_sem] cell_over frozen_over lt_over le_over ne_over over_ne cell_set_same

set_option maxHeartbeats 1000000 in
theorem reach_low {a b c d n : Int} (h : okL a b c d) (g1 : 0 ≤ n) (g2 : n ≤ c) (w : World) :
    Calls Try.prog 19 #[.agg #[.int .i64 a, .int .i64 b, .int .i64 c, .int .i64 d], .int .i64 n] w fun e w' => e = .returned (.tuple #[.agg #[.int .i64 a, .int .i64 b, .int .i64 c, .int .i64 d], .int .i64 (0), .bool true]) ∧ Below w.heap.size w w' := by
  have H := Lib.hid h
  unfold okL at h
  obtain ⟨h1, h2, h3, h4, h5, h6⟩ := h
  have h7 : 0 ≤ c := by omega
  have h8 : 0 ≤ b := by omega
  go_enter Try.func19, Try.ntmps19
  go_wp2_with (first | ((with_reducible refine (check_yes H.out _).mono ?_); rintro e w1 ⟨rfl, hb1⟩; (first | obtain ⟨x1, rfl⟩ := as_over2 hb1 | obtain ⟨x1, rfl⟩ := as_over hb1); clear hb1))
  all_goals (try go_region)
  all_goals (try go_wp2)
  all_goals go_returns
  all_goals first | refine ⟨rfl, ?_⟩ | (refine And.intro rfl ?_) | (refine And.intro (by first | (simp; done) | (simp; omega)) ?_)
  all_goals repeat (first | (with_reducible exact Below.refl _ _) | (with_reducible refine bov ?_ _) | (with_reducible refine bta ?_ _) | (with_reducible refine btd ?_) | (with_reducible refine Below.setCell ?_ (by simp) _))

set_option maxHeartbeats 1000000 in
theorem reach_high {a b c d n : Int} (h : okL a b c d) (g1 : c < n) (g2 : n ≤ b) (w : World) :
    Calls Try.prog 19 #[.agg #[.int .i64 a, .int .i64 b, .int .i64 c, .int .i64 d], .int .i64 n] w fun e w' => e = .returned (.tuple #[.agg #[.int .i64 a, .int .i64 b, .int .i64 n, .int .i64 d], .int .i64 (n - c), .bool true]) ∧ Below w.heap.size w w' := by
  have H := Lib.hid h
  unfold okL at h
  obtain ⟨h1, h2, h3, h4, h5, h6⟩ := h
  have h7 : 0 ≤ c := by omega
  have h8 : 0 ≤ b := by omega
  go_enter Try.func19, Try.ntmps19
  go_wp2_with (first | ((with_reducible refine (check_yes H.out _).mono ?_); rintro e w1 ⟨rfl, hb1⟩; (first | obtain ⟨x1, rfl⟩ := as_over2 hb1 | obtain ⟨x1, rfl⟩ := as_over hb1); clear hb1))
  all_goals (try go_region)
  all_goals (try go_wp2)
  all_goals go_returns
  all_goals first | refine ⟨rfl, ?_⟩ | (refine And.intro rfl ?_) | (refine And.intro (by first | (simp; done) | (simp; omega)) ?_)
  all_goals repeat (first | (with_reducible exact Below.refl _ _) | (with_reducible refine bov ?_ _) | (with_reducible refine bta ?_ _) | (with_reducible refine btd ?_) | (with_reducible refine Below.setCell ?_ (by simp) _))

set_option maxHeartbeats 1000000 in
theorem reach_neg {a b c d n : Int} (h : okL a b c d) (g1 : n < 0) (w : World) :
    Calls Try.prog 19 #[.agg #[.int .i64 a, .int .i64 b, .int .i64 c, .int .i64 d], .int .i64 n] w fun e w' => e = .returned (.tuple #[.agg #[.int .i64 a, .int .i64 b, .int .i64 c, .int .i64 d], .int .i64 (0), .bool false]) ∧ Below w.heap.size w w' := by
  have H := Lib.hid h
  unfold okL at h
  obtain ⟨h1, h2, h3, h4, h5, h6⟩ := h
  have h7 : 0 ≤ c := by omega
  have h8 : 0 ≤ b := by omega
  go_enter Try.func19, Try.ntmps19
  go_wp2_with (first | ((with_reducible refine (check_yes H.out _).mono ?_); rintro e w1 ⟨rfl, hb1⟩; (first | obtain ⟨x1, rfl⟩ := as_over2 hb1 | obtain ⟨x1, rfl⟩ := as_over hb1); clear hb1))
  all_goals (try go_region)
  all_goals (try go_wp2)
  all_goals go_returns
  all_goals first | refine ⟨rfl, ?_⟩ | (refine And.intro rfl ?_) | (refine And.intro (by first | (simp; done) | (simp; omega)) ?_)
  all_goals repeat (first | (with_reducible exact Below.refl _ _) | (with_reducible refine bov ?_ _) | (with_reducible refine bta ?_ _) | (with_reducible refine btd ?_) | (with_reducible refine Below.setCell ?_ (by simp) _))

set_option maxHeartbeats 1000000 in
theorem reach_more {a b c d n : Int} (h : okL a b c d) (g0 : 0 ≤ n) (g1 : b < n) (w : World) :
    Calls Try.prog 19 #[.agg #[.int .i64 a, .int .i64 b, .int .i64 c, .int .i64 d], .int .i64 n] w fun e w' => e = .returned (.tuple #[.agg #[.int .i64 a, .int .i64 b, .int .i64 c, .int .i64 d], .int .i64 (0), .bool false]) ∧ Below w.heap.size w w' := by
  have H := Lib.hid h
  unfold okL at h
  obtain ⟨h1, h2, h3, h4, h5, h6⟩ := h
  have h7 : 0 ≤ c := by omega
  have h8 : 0 ≤ b := by omega
  go_enter Try.func19, Try.ntmps19
  go_wp2_with (first | ((with_reducible refine (check_yes H.out _).mono ?_); rintro e w1 ⟨rfl, hb1⟩; (first | obtain ⟨x1, rfl⟩ := as_over2 hb1 | obtain ⟨x1, rfl⟩ := as_over hb1); clear hb1))
  all_goals (try go_region)
  all_goals (try go_wp2)
  all_goals go_returns
  all_goals first | refine ⟨rfl, ?_⟩ | (refine And.intro rfl ?_) | (refine And.intro (by first | (simp; done) | (simp; omega)) ?_)
  all_goals repeat (first | (with_reducible exact Below.refl _ _) | (with_reducible refine bov ?_ _) | (with_reducible refine bta ?_ _) | (with_reducible refine btd ?_) | (with_reducible refine Below.setCell ?_ (by simp) _))

set_option maxHeartbeats 1000000 in
theorem reach_no {a b c d n : Int} (h : ¬ okL a b c d)  (w : World) :
    Calls Try.prog 19 #[.agg #[.int .i64 a, .int .i64 b, .int .i64 c, .int .i64 d], .int .i64 n] w fun e w' => e = .returned (.tuple #[.agg #[.int .i64 a, .int .i64 b, .int .i64 c, .int .i64 d], .int .i64 (0), .bool false]) ∧ Below w.heap.size w w' := by
  have H := Lib.hid h
  clear h
  go_enter Try.func19, Try.ntmps19
  go_wp2_with (first | ((with_reducible refine (check_no H.out _).mono ?_); rintro e w1 ⟨rfl, hb1⟩; (first | obtain ⟨x1, rfl⟩ := as_over2 hb1 | obtain ⟨x1, rfl⟩ := as_over hb1); clear hb1))
  all_goals (try go_region)
  all_goals (try go_wp2)
  all_goals go_returns
  all_goals first | refine ⟨rfl, ?_⟩ | (refine And.intro rfl ?_) | (refine And.intro (by first | (simp; done) | (simp; omega)) ?_)
  all_goals repeat (first | (with_reducible exact Below.refl _ _) | (with_reducible refine bov ?_ _) | (with_reducible refine bta ?_ _) | (with_reducible refine btd ?_) | (with_reducible refine Below.setCell ?_ (by simp) _))

set_option maxHeartbeats 1000000 in
theorem rreach_low {a b c d n : Int} (h : okL a b c d) (g1 : 0 ≤ n) (g2 : n ≤ c) (w : World) :
    Calls Try.prog 20 #[.agg #[.int .i64 a, .int .i64 b, .int .i64 c, .int .i64 d], .int .i64 n] w fun e w' => e = .returned (.tuple #[.agg #[.int .i64 a, .int .i64 b, .int .i64 c, .int .i64 d], .int .i64 (0), .bool true]) ∧ Below w.heap.size w w' := by
  have H := Lib.hid h
  unfold okL at h
  obtain ⟨h1, h2, h3, h4, h5, h6⟩ := h
  have h7 : 0 ≤ c := by omega
  have h8 : 0 ≤ b := by omega
  go_enter Try.func20, Try.ntmps20
  go_wp2_with (first | ((with_reducible refine (rcheck_yes H.out _).mono ?_); rintro e w1 ⟨rfl, hb1⟩; (first | obtain ⟨x1, rfl⟩ := as_over2 hb1 | obtain ⟨x1, rfl⟩ := as_over hb1); clear hb1))
  all_goals (try go_region)
  all_goals (try go_wp2)
  all_goals go_returns
  all_goals first | refine ⟨rfl, ?_⟩ | (refine And.intro rfl ?_) | (refine And.intro (by first | (simp; done) | (simp; omega)) ?_)
  all_goals repeat (first | (with_reducible exact Below.refl _ _) | (with_reducible refine bov ?_ _) | (with_reducible refine bta ?_ _) | (with_reducible refine btd ?_) | (with_reducible refine Below.setCell ?_ (by simp) _))

set_option maxHeartbeats 1000000 in
theorem rreach_high {a b c d n : Int} (h : okL a b c d) (g1 : c < n) (g2 : n ≤ b) (w : World) :
    Calls Try.prog 20 #[.agg #[.int .i64 a, .int .i64 b, .int .i64 c, .int .i64 d], .int .i64 n] w fun e w' => e = .returned (.tuple #[.agg #[.int .i64 a, .int .i64 b, .int .i64 n, .int .i64 d], .int .i64 (n - c), .bool true]) ∧ Below w.heap.size w w' := by
  have H := Lib.hid h
  unfold okL at h
  obtain ⟨h1, h2, h3, h4, h5, h6⟩ := h
  have h7 : 0 ≤ c := by omega
  have h8 : 0 ≤ b := by omega
  go_enter Try.func20, Try.ntmps20
  go_wp2_with (first | ((with_reducible refine (rcheck_yes H.out _).mono ?_); rintro e w1 ⟨rfl, hb1⟩; (first | obtain ⟨x1, rfl⟩ := as_over2 hb1 | obtain ⟨x1, rfl⟩ := as_over hb1); clear hb1))
  all_goals (try go_region)
  all_goals (try go_wp2)
  all_goals go_returns
  all_goals first | refine ⟨rfl, ?_⟩ | (refine And.intro rfl ?_) | (refine And.intro (by first | (simp; done) | (simp; omega)) ?_)
  all_goals repeat (first | (with_reducible exact Below.refl _ _) | (with_reducible refine bov ?_ _) | (with_reducible refine bta ?_ _) | (with_reducible refine btd ?_) | (with_reducible refine Below.setCell ?_ (by simp) _))

set_option maxHeartbeats 1000000 in
theorem rreach_neg {a b c d n : Int} (h : okL a b c d) (g1 : n < 0) (w : World) :
    Calls Try.prog 20 #[.agg #[.int .i64 a, .int .i64 b, .int .i64 c, .int .i64 d], .int .i64 n] w fun e w' => e = .returned (.tuple #[.agg #[.int .i64 a, .int .i64 b, .int .i64 c, .int .i64 d], .int .i64 (0), .bool false]) ∧ Below w.heap.size w w' := by
  have H := Lib.hid h
  unfold okL at h
  obtain ⟨h1, h2, h3, h4, h5, h6⟩ := h
  have h7 : 0 ≤ c := by omega
  have h8 : 0 ≤ b := by omega
  go_enter Try.func20, Try.ntmps20
  go_wp2_with (first | ((with_reducible refine (rcheck_yes H.out _).mono ?_); rintro e w1 ⟨rfl, hb1⟩; (first | obtain ⟨x1, rfl⟩ := as_over2 hb1 | obtain ⟨x1, rfl⟩ := as_over hb1); clear hb1))
  all_goals (try go_region)
  all_goals (try go_wp2)
  all_goals go_returns
  all_goals first | refine ⟨rfl, ?_⟩ | (refine And.intro rfl ?_) | (refine And.intro (by first | (simp; done) | (simp; omega)) ?_)
  all_goals repeat (first | (with_reducible exact Below.refl _ _) | (with_reducible refine bov ?_ _) | (with_reducible refine bta ?_ _) | (with_reducible refine btd ?_) | (with_reducible refine Below.setCell ?_ (by simp) _))

set_option maxHeartbeats 1000000 in
theorem rreach_more {a b c d n : Int} (h : okL a b c d) (g0 : 0 ≤ n) (g1 : b < n) (w : World) :
    Calls Try.prog 20 #[.agg #[.int .i64 a, .int .i64 b, .int .i64 c, .int .i64 d], .int .i64 n] w fun e w' => e = .returned (.tuple #[.agg #[.int .i64 a, .int .i64 b, .int .i64 c, .int .i64 d], .int .i64 (0), .bool false]) ∧ Below w.heap.size w w' := by
  have H := Lib.hid h
  unfold okL at h
  obtain ⟨h1, h2, h3, h4, h5, h6⟩ := h
  have h7 : 0 ≤ c := by omega
  have h8 : 0 ≤ b := by omega
  go_enter Try.func20, Try.ntmps20
  go_wp2_with (first | ((with_reducible refine (rcheck_yes H.out _).mono ?_); rintro e w1 ⟨rfl, hb1⟩; (first | obtain ⟨x1, rfl⟩ := as_over2 hb1 | obtain ⟨x1, rfl⟩ := as_over hb1); clear hb1))
  all_goals (try go_region)
  all_goals (try go_wp2)
  all_goals go_returns
  all_goals first | refine ⟨rfl, ?_⟩ | (refine And.intro rfl ?_) | (refine And.intro (by first | (simp; done) | (simp; omega)) ?_)
  all_goals repeat (first | (with_reducible exact Below.refl _ _) | (with_reducible refine bov ?_ _) | (with_reducible refine bta ?_ _) | (with_reducible refine btd ?_) | (with_reducible refine Below.setCell ?_ (by simp) _))

set_option maxHeartbeats 1000000 in
theorem rreach_no {a b c d n : Int} (h : ¬ okL a b c d)  (w : World) :
    Calls Try.prog 20 #[.agg #[.int .i64 a, .int .i64 b, .int .i64 c, .int .i64 d], .int .i64 n] w fun e w' => e = .returned (.tuple #[.agg #[.int .i64 a, .int .i64 b, .int .i64 c, .int .i64 d], .int .i64 (0), .bool false]) ∧ Below w.heap.size w w' := by
  have H := Lib.hid h
  clear h
  go_enter Try.func20, Try.ntmps20
  go_wp2_with (first | ((with_reducible refine (rcheck_no H.out _).mono ?_); rintro e w1 ⟨rfl, hb1⟩; (first | obtain ⟨x1, rfl⟩ := as_over2 hb1 | obtain ⟨x1, rfl⟩ := as_over hb1); clear hb1))
  all_goals (try go_region)
  all_goals (try go_wp2)
  all_goals go_returns
  all_goals first | refine ⟨rfl, ?_⟩ | (refine And.intro rfl ?_) | (refine And.intro (by first | (simp; done) | (simp; omega)) ?_)
  all_goals repeat (first | (with_reducible exact Below.refl _ _) | (with_reducible refine bov ?_ _) | (with_reducible refine bta ?_ _) | (with_reducible refine btd ?_) | (with_reducible refine Below.setCell ?_ (by simp) _))

end Go.Proofs.Ytfdikbbojddbmaa
