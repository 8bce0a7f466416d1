/- The contracts of Eat, Grant and New on ledgers, of both packages: each returns what is said of the four numbers, and leaves all memory that stood before as it was. -/
import Derived.Test.YtfdikbbojddbmaaC2
namespace Go.Proofs.Ytfdikbbojddbmaa
open Go.RowKit
attribute [local go_sem] cell_over frozen_over lt_over le_over ne_over over_ne cell_set_same

set_option maxHeartbeats 1000000 in
theorem eat_low {a b c d n : Int} (h : okL a b c d) (g1 : 1 ≤ n) (g2 : n ≤ c - d) (w : World) :
    Calls Try.prog 22 #[.agg #[.int .i64 a, .int .i64 b, .int .i64 c, .int .i64 d], .int .i64 n] w fun e w' => e = .returned (.agg #[.int .i64 a, .int .i64 b, .int .i64 c, .int .i64 (d + n)]) ∧ Below w.heap.size w w' := by
  have H := Lib.hid h
  unfold okL at h
  obtain ⟨h1, h2, h3, h4, h5, h6⟩ := h
  have h7 : 0 ≤ c := by omega
  have h8 : 0 ≤ b := by omega
  go_enter Try.func22, Try.ntmps22
  go_wp2_with (first | ((with_reducible refine (check_yes H.out _).mono ?_); rintro e w1 ⟨rfl, hb1⟩; (first | obtain ⟨x1, rfl⟩ := as_over2 hb1 | obtain ⟨x1, rfl⟩ := as_over hb1); clear hb1))
  all_goals (try go_region)
  all_goals (try go_wp2)
  all_goals go_returns
  all_goals first | refine ⟨rfl, ?_⟩ | (refine And.intro rfl ?_) | (refine And.intro (by first | (simp; done) | (simp; omega)) ?_)
  all_goals repeat (first | (with_reducible exact Below.refl _ _) | (with_reducible refine bov ?_ _) | (with_reducible refine bta ?_ _) | (with_reducible refine btd ?_) | (with_reducible refine Below.setCell ?_ (by simp) _))

set_option maxHeartbeats 1000000 in
theorem eat_high {a b c d n : Int} (h : okL a b c d) (g1 : 1 ≤ n) (g2 : c - d < n) (w : World) :
    Calls Try.prog 22 #[.agg #[.int .i64 a, .int .i64 b, .int .i64 c, .int .i64 d], .int .i64 n] w fun e w' => e = .returned (.agg #[.int .i64 a, .int .i64 b, .int .i64 c, .int .i64 c]) ∧ Below w.heap.size w w' := by
  have H := Lib.hid h
  unfold okL at h
  obtain ⟨h1, h2, h3, h4, h5, h6⟩ := h
  have h7 : 0 ≤ c := by omega
  have h8 : 0 ≤ b := by omega
  go_enter Try.func22, Try.ntmps22
  go_wp2_with (first | ((with_reducible refine (check_yes H.out _).mono ?_); rintro e w1 ⟨rfl, hb1⟩; (first | obtain ⟨x1, rfl⟩ := as_over2 hb1 | obtain ⟨x1, rfl⟩ := as_over hb1); clear hb1))
  all_goals (try go_region)
  all_goals (try go_wp2)
  all_goals go_returns
  all_goals first | refine ⟨rfl, ?_⟩ | (refine And.intro rfl ?_) | (refine And.intro (by first | (simp; done) | (simp; omega)) ?_)
  all_goals repeat (first | (with_reducible exact Below.refl _ _) | (with_reducible refine bov ?_ _) | (with_reducible refine bta ?_ _) | (with_reducible refine btd ?_) | (with_reducible refine Below.setCell ?_ (by simp) _))

set_option maxHeartbeats 1000000 in
theorem eat_zero {a b c d n : Int} (h : okL a b c d) (g1 : n < 1) (w : World) :
    Calls Try.prog 22 #[.agg #[.int .i64 a, .int .i64 b, .int .i64 c, .int .i64 d], .int .i64 n] w fun e w' => e = .returned (.agg #[.int .i64 a, .int .i64 b, .int .i64 c, .int .i64 d]) ∧ Below w.heap.size w w' := by
  have H := Lib.hid h
  unfold okL at h
  obtain ⟨h1, h2, h3, h4, h5, h6⟩ := h
  have h7 : 0 ≤ c := by omega
  have h8 : 0 ≤ b := by omega
  go_enter Try.func22, Try.ntmps22
  go_wp2_with (first | ((with_reducible refine (check_yes H.out _).mono ?_); rintro e w1 ⟨rfl, hb1⟩; (first | obtain ⟨x1, rfl⟩ := as_over2 hb1 | obtain ⟨x1, rfl⟩ := as_over hb1); clear hb1))
  all_goals (try go_region)
  all_goals (try go_wp2)
  all_goals go_returns
  all_goals first | refine ⟨rfl, ?_⟩ | (refine And.intro rfl ?_) | (refine And.intro (by first | (simp; done) | (simp; omega)) ?_)
  all_goals repeat (first | (with_reducible exact Below.refl _ _) | (with_reducible refine bov ?_ _) | (with_reducible refine bta ?_ _) | (with_reducible refine btd ?_) | (with_reducible refine Below.setCell ?_ (by simp) _))

set_option maxHeartbeats 1000000 in
theorem eat_no {a b c d n : Int} (h : ¬ okL a b c d)  (w : World) :
    Calls Try.prog 22 #[.agg #[.int .i64 a, .int .i64 b, .int .i64 c, .int .i64 d], .int .i64 n] w fun e w' => e = .returned (.agg #[.int .i64 a, .int .i64 b, .int .i64 c, .int .i64 d]) ∧ Below w.heap.size w w' := by
  have H := Lib.hid h
  clear h
  go_enter Try.func22, Try.ntmps22
  go_wp2_with (first | ((with_reducible refine (check_no H.out _).mono ?_); rintro e w1 ⟨rfl, hb1⟩; (first | obtain ⟨x1, rfl⟩ := as_over2 hb1 | obtain ⟨x1, rfl⟩ := as_over hb1); clear hb1))
  all_goals (try go_region)
  all_goals (try go_wp2)
  all_goals go_returns
  all_goals first | refine ⟨rfl, ?_⟩ | (refine And.intro rfl ?_) | (refine And.intro (by first | (simp; done) | (simp; omega)) ?_)
  all_goals repeat (first | (with_reducible exact Below.refl _ _) | (with_reducible refine bov ?_ _) | (with_reducible refine bta ?_ _) | (with_reducible refine btd ?_) | (with_reducible refine Below.setCell ?_ (by simp) _))

set_option maxHeartbeats 1000000 in
theorem reat_low {a b c d n : Int} (h : okL a b c d) (g1 : 1 ≤ n) (g2 : n ≤ c - d) (w : World) :
    Calls Try.prog 24 #[.agg #[.int .i64 a, .int .i64 b, .int .i64 c, .int .i64 d], .int .i64 n] w fun e w' => e = .returned (.agg #[.int .i64 a, .int .i64 b, .int .i64 c, .int .i64 (d + n)]) ∧ Below w.heap.size w w' := by
  have H := Lib.hid h
  unfold okL at h
  obtain ⟨h1, h2, h3, h4, h5, h6⟩ := h
  have h7 : 0 ≤ c := by omega
  have h8 : 0 ≤ b := by omega
  go_enter Try.func24, Try.ntmps24
  go_wp2_with (first | ((with_reducible refine (rcheck_yes H.out _).mono ?_); rintro e w1 ⟨rfl, hb1⟩; (first | obtain ⟨x1, rfl⟩ := as_over2 hb1 | obtain ⟨x1, rfl⟩ := as_over hb1); clear hb1))
  all_goals (try go_region)
  all_goals (try go_wp2)
  all_goals go_returns
  all_goals first | refine ⟨rfl, ?_⟩ | (refine And.intro rfl ?_) | (refine And.intro (by first | (simp; done) | (simp; omega)) ?_)
  all_goals repeat (first | (with_reducible exact Below.refl _ _) | (with_reducible refine bov ?_ _) | (with_reducible refine bta ?_ _) | (with_reducible refine btd ?_) | (with_reducible refine Below.setCell ?_ (by simp) _))

set_option maxHeartbeats 1000000 in
theorem reat_high {a b c d n : Int} (h : okL a b c d) (g1 : 1 ≤ n) (g2 : c - d < n) (w : World) :
    Calls Try.prog 24 #[.agg #[.int .i64 a, .int .i64 b, .int .i64 c, .int .i64 d], .int .i64 n] w fun e w' => e = .returned (.agg #[.int .i64 a, .int .i64 b, .int .i64 c, .int .i64 c]) ∧ Below w.heap.size w w' := by
  have H := Lib.hid h
  unfold okL at h
  obtain ⟨h1, h2, h3, h4, h5, h6⟩ := h
  have h7 : 0 ≤ c := by omega
  have h8 : 0 ≤ b := by omega
  go_enter Try.func24, Try.ntmps24
  go_wp2_with (first | ((with_reducible refine (rcheck_yes H.out _).mono ?_); rintro e w1 ⟨rfl, hb1⟩; (first | obtain ⟨x1, rfl⟩ := as_over2 hb1 | obtain ⟨x1, rfl⟩ := as_over hb1); clear hb1))
  all_goals (try go_region)
  all_goals (try go_wp2)
  all_goals go_returns
  all_goals first | refine ⟨rfl, ?_⟩ | (refine And.intro rfl ?_) | (refine And.intro (by first | (simp; done) | (simp; omega)) ?_)
  all_goals repeat (first | (with_reducible exact Below.refl _ _) | (with_reducible refine bov ?_ _) | (with_reducible refine bta ?_ _) | (with_reducible refine btd ?_) | (with_reducible refine Below.setCell ?_ (by simp) _))

set_option maxHeartbeats 1000000 in
theorem reat_zero {a b c d n : Int} (h : okL a b c d) (g1 : n < 1) (w : World) :
    Calls Try.prog 24 #[.agg #[.int .i64 a, .int .i64 b, .int .i64 c, .int .i64 d], .int .i64 n] w fun e w' => e = .returned (.agg #[.int .i64 a, .int .i64 b, .int .i64 c, .int .i64 d]) ∧ Below w.heap.size w w' := by
  have H := Lib.hid h
  unfold okL at h
  obtain ⟨h1, h2, h3, h4, h5, h6⟩ := h
  have h7 : 0 ≤ c := by omega
  have h8 : 0 ≤ b := by omega
  go_enter Try.func24, Try.ntmps24
  go_wp2_with (first | ((with_reducible refine (rcheck_yes H.out _).mono ?_); rintro e w1 ⟨rfl, hb1⟩; (first | obtain ⟨x1, rfl⟩ := as_over2 hb1 | obtain ⟨x1, rfl⟩ := as_over hb1); clear hb1))
  all_goals (try go_region)
  all_goals (try go_wp2)
  all_goals go_returns
  all_goals first | refine ⟨rfl, ?_⟩ | (refine And.intro rfl ?_) | (refine And.intro (by first | (simp; done) | (simp; omega)) ?_)
  all_goals repeat (first | (with_reducible exact Below.refl _ _) | (with_reducible refine bov ?_ _) | (with_reducible refine bta ?_ _) | (with_reducible refine btd ?_) | (with_reducible refine Below.setCell ?_ (by simp) _))

set_option maxHeartbeats 1000000 in
theorem reat_no {a b c d n : Int} (h : ¬ okL a b c d)  (w : World) :
    Calls Try.prog 24 #[.agg #[.int .i64 a, .int .i64 b, .int .i64 c, .int .i64 d], .int .i64 n] w fun e w' => e = .returned (.agg #[.int .i64 a, .int .i64 b, .int .i64 c, .int .i64 d]) ∧ Below w.heap.size w w' := by
  have H := Lib.hid h
  clear h
  go_enter Try.func24, Try.ntmps24
  go_wp2_with (first | ((with_reducible refine (rcheck_no H.out _).mono ?_); rintro e w1 ⟨rfl, hb1⟩; (first | obtain ⟨x1, rfl⟩ := as_over2 hb1 | obtain ⟨x1, rfl⟩ := as_over hb1); clear hb1))
  all_goals (try go_region)
  all_goals (try go_wp2)
  all_goals go_returns
  all_goals first | refine ⟨rfl, ?_⟩ | (refine And.intro rfl ?_) | (refine And.intro (by first | (simp; done) | (simp; omega)) ?_)
  all_goals repeat (first | (with_reducible exact Below.refl _ _) | (with_reducible refine bov ?_ _) | (with_reducible refine bta ?_ _) | (with_reducible refine btd ?_) | (with_reducible refine Below.setCell ?_ (by simp) _))

set_option maxHeartbeats 1000000 in
theorem grant_lo {a b c d : Int} (h : okL a b c d) (g0 : d + a ≤ 1099511627776) (g1 : 1 ≤ d + a - b) (g2 : a / 2 ≤ d + a - b) (w : World) :
    Calls Try.prog 21 #[.agg #[.int .i64 a, .int .i64 b, .int .i64 c, .int .i64 d]] w fun e w' => e = .returned (.tuple #[.agg #[.int .i64 a, .int .i64 (d + a), .int .i64 c, .int .i64 d], .int .i64 (d + a - b)]) ∧ Below w.heap.size w w' := by
  have H := Lib.hid h
  unfold okL at h
  obtain ⟨h1, h2, h3, h4, h5, h6⟩ := h
  have h7 : 0 ≤ c := by omega
  have h8 : 0 ≤ b := by omega
  have h9 : 0 ≤ a / 2 ∧ a / 2 ≤ 524288 := by omega
  go_enter Try.func21, Try.ntmps21
  go_wp2_with (first | ((with_reducible refine (check_yes H.out _).mono ?_); rintro e w1 ⟨rfl, hb1⟩; (first | obtain ⟨x1, rfl⟩ := as_over2 hb1 | obtain ⟨x1, rfl⟩ := as_over hb1); clear hb1))
  all_goals (try go_region)
  all_goals (try go_wp2)
  all_goals go_returns
  all_goals first | refine ⟨rfl, ?_⟩ | (refine And.intro rfl ?_) | (refine And.intro (by first | (simp; done) | (simp; omega)) ?_)
  all_goals repeat (first | (with_reducible exact Below.refl _ _) | (with_reducible refine bov ?_ _) | (with_reducible refine bta ?_ _) | (with_reducible refine btd ?_) | (with_reducible refine Below.setCell ?_ (by simp) _))

set_option maxHeartbeats 1000000 in
theorem grant_lo1 {a b c d : Int} (h : okL a b c d) (g0 : d + a ≤ 1099511627776) (g1 : d + a - b < 1) (w : World) :
    Calls Try.prog 21 #[.agg #[.int .i64 a, .int .i64 b, .int .i64 c, .int .i64 d]] w fun e w' => e = .returned (.tuple #[.agg #[.int .i64 a, .int .i64 b, .int .i64 c, .int .i64 d], .int .i64 (0)]) ∧ Below w.heap.size w w' := by
  have H := Lib.hid h
  unfold okL at h
  obtain ⟨h1, h2, h3, h4, h5, h6⟩ := h
  have h7 : 0 ≤ c := by omega
  have h8 : 0 ≤ b := by omega
  have h9 : 0 ≤ a / 2 ∧ a / 2 ≤ 524288 := by omega
  go_enter Try.func21, Try.ntmps21
  go_wp2_with (first | ((with_reducible refine (check_yes H.out _).mono ?_); rintro e w1 ⟨rfl, hb1⟩; (first | obtain ⟨x1, rfl⟩ := as_over2 hb1 | obtain ⟨x1, rfl⟩ := as_over hb1); clear hb1))
  all_goals (try go_region)
  all_goals (try go_wp2)
  all_goals go_returns
  all_goals first | refine ⟨rfl, ?_⟩ | (refine And.intro rfl ?_) | (refine And.intro (by first | (simp; done) | (simp; omega)) ?_)
  all_goals repeat (first | (with_reducible exact Below.refl _ _) | (with_reducible refine bov ?_ _) | (with_reducible refine bta ?_ _) | (with_reducible refine btd ?_) | (with_reducible refine Below.setCell ?_ (by simp) _))

set_option maxHeartbeats 1000000 in
theorem grant_lo2 {a b c d : Int} (h : okL a b c d) (g0 : d + a ≤ 1099511627776) (g1 : 1 ≤ d + a - b) (g2 : d + a - b < a / 2) (w : World) :
    Calls Try.prog 21 #[.agg #[.int .i64 a, .int .i64 b, .int .i64 c, .int .i64 d]] w fun e w' => e = .returned (.tuple #[.agg #[.int .i64 a, .int .i64 b, .int .i64 c, .int .i64 d], .int .i64 (0)]) ∧ Below w.heap.size w w' := by
  have H := Lib.hid h
  unfold okL at h
  obtain ⟨h1, h2, h3, h4, h5, h6⟩ := h
  have h7 : 0 ≤ c := by omega
  have h8 : 0 ≤ b := by omega
  have h9 : 0 ≤ a / 2 ∧ a / 2 ≤ 524288 := by omega
  go_enter Try.func21, Try.ntmps21
  go_wp2_with (first | ((with_reducible refine (check_yes H.out _).mono ?_); rintro e w1 ⟨rfl, hb1⟩; (first | obtain ⟨x1, rfl⟩ := as_over2 hb1 | obtain ⟨x1, rfl⟩ := as_over hb1); clear hb1))
  all_goals (try go_region)
  all_goals (try go_wp2)
  all_goals go_returns
  all_goals first | refine ⟨rfl, ?_⟩ | (refine And.intro rfl ?_) | (refine And.intro (by first | (simp; done) | (simp; omega)) ?_)
  all_goals repeat (first | (with_reducible exact Below.refl _ _) | (with_reducible refine bov ?_ _) | (with_reducible refine bta ?_ _) | (with_reducible refine btd ?_) | (with_reducible refine Below.setCell ?_ (by simp) _))

set_option maxHeartbeats 1000000 in
theorem grant_hi {a b c d : Int} (h : okL a b c d) (g0 : 1099511627776 < d + a) (g1 : 1 ≤ 1099511627776 - b) (g2 : a / 2 ≤ 1099511627776 - b) (w : World) :
    Calls Try.prog 21 #[.agg #[.int .i64 a, .int .i64 b, .int .i64 c, .int .i64 d]] w fun e w' => e = .returned (.tuple #[.agg #[.int .i64 a, .int .i64 1099511627776, .int .i64 c, .int .i64 d], .int .i64 (1099511627776 - b)]) ∧ Below w.heap.size w w' := by
  have H := Lib.hid h
  unfold okL at h
  obtain ⟨h1, h2, h3, h4, h5, h6⟩ := h
  have h7 : 0 ≤ c := by omega
  have h8 : 0 ≤ b := by omega
  have h9 : 0 ≤ a / 2 ∧ a / 2 ≤ 524288 := by omega
  go_enter Try.func21, Try.ntmps21
  go_wp2_with (first | ((with_reducible refine (check_yes H.out _).mono ?_); rintro e w1 ⟨rfl, hb1⟩; (first | obtain ⟨x1, rfl⟩ := as_over2 hb1 | obtain ⟨x1, rfl⟩ := as_over hb1); clear hb1))
  all_goals (try go_region)
  all_goals (try go_wp2)
  all_goals go_returns
  all_goals first | refine ⟨rfl, ?_⟩ | (refine And.intro rfl ?_) | (refine And.intro (by first | (simp; done) | (simp; omega)) ?_)
  all_goals repeat (first | (with_reducible exact Below.refl _ _) | (with_reducible refine bov ?_ _) | (with_reducible refine bta ?_ _) | (with_reducible refine btd ?_) | (with_reducible refine Below.setCell ?_ (by simp) _))

set_option maxHeartbeats 1000000 in
theorem grant_hi1 {a b c d : Int} (h : okL a b c d) (g0 : 1099511627776 < d + a) (g1 : 1099511627776 - b < 1) (w : World) :
    Calls Try.prog 21 #[.agg #[.int .i64 a, .int .i64 b, .int .i64 c, .int .i64 d]] w fun e w' => e = .returned (.tuple #[.agg #[.int .i64 a, .int .i64 b, .int .i64 c, .int .i64 d], .int .i64 (0)]) ∧ Below w.heap.size w w' := by
  have H := Lib.hid h
  unfold okL at h
  obtain ⟨h1, h2, h3, h4, h5, h6⟩ := h
  have h7 : 0 ≤ c := by omega
  have h8 : 0 ≤ b := by omega
  have h9 : 0 ≤ a / 2 ∧ a / 2 ≤ 524288 := by omega
  go_enter Try.func21, Try.ntmps21
  go_wp2_with (first | ((with_reducible refine (check_yes H.out _).mono ?_); rintro e w1 ⟨rfl, hb1⟩; (first | obtain ⟨x1, rfl⟩ := as_over2 hb1 | obtain ⟨x1, rfl⟩ := as_over hb1); clear hb1))
  all_goals (try go_region)
  all_goals (try go_wp2)
  all_goals go_returns
  all_goals first | refine ⟨rfl, ?_⟩ | (refine And.intro rfl ?_) | (refine And.intro (by first | (simp; done) | (simp; omega)) ?_)
  all_goals repeat (first | (with_reducible exact Below.refl _ _) | (with_reducible refine bov ?_ _) | (with_reducible refine bta ?_ _) | (with_reducible refine btd ?_) | (with_reducible refine Below.setCell ?_ (by simp) _))

set_option maxHeartbeats 1000000 in
theorem grant_hi2 {a b c d : Int} (h : okL a b c d) (g0 : 1099511627776 < d + a) (g1 : 1 ≤ 1099511627776 - b) (g2 : 1099511627776 - b < a / 2) (w : World) :
    Calls Try.prog 21 #[.agg #[.int .i64 a, .int .i64 b, .int .i64 c, .int .i64 d]] w fun e w' => e = .returned (.tuple #[.agg #[.int .i64 a, .int .i64 b, .int .i64 c, .int .i64 d], .int .i64 (0)]) ∧ Below w.heap.size w w' := by
  have H := Lib.hid h
  unfold okL at h
  obtain ⟨h1, h2, h3, h4, h5, h6⟩ := h
  have h7 : 0 ≤ c := by omega
  have h8 : 0 ≤ b := by omega
  have h9 : 0 ≤ a / 2 ∧ a / 2 ≤ 524288 := by omega
  go_enter Try.func21, Try.ntmps21
  go_wp2_with (first | ((with_reducible refine (check_yes H.out _).mono ?_); rintro e w1 ⟨rfl, hb1⟩; (first | obtain ⟨x1, rfl⟩ := as_over2 hb1 | obtain ⟨x1, rfl⟩ := as_over hb1); clear hb1))
  all_goals (try go_region)
  all_goals (try go_wp2)
  all_goals go_returns
  all_goals first | refine ⟨rfl, ?_⟩ | (refine And.intro rfl ?_) | (refine And.intro (by first | (simp; done) | (simp; omega)) ?_)
  all_goals repeat (first | (with_reducible exact Below.refl _ _) | (with_reducible refine bov ?_ _) | (with_reducible refine bta ?_ _) | (with_reducible refine btd ?_) | (with_reducible refine Below.setCell ?_ (by simp) _))

set_option maxHeartbeats 1000000 in
theorem grant_no {a b c d : Int} (h : ¬ okL a b c d)  (w : World) :
    Calls Try.prog 21 #[.agg #[.int .i64 a, .int .i64 b, .int .i64 c, .int .i64 d]] w fun e w' => e = .returned (.tuple #[.agg #[.int .i64 a, .int .i64 b, .int .i64 c, .int .i64 d], .int .i64 (0)]) ∧ Below w.heap.size w w' := by
  have H := Lib.hid h
  clear h
  go_enter Try.func21, Try.ntmps21
  go_wp2_with (first | ((with_reducible refine (check_no H.out _).mono ?_); rintro e w1 ⟨rfl, hb1⟩; (first | obtain ⟨x1, rfl⟩ := as_over2 hb1 | obtain ⟨x1, rfl⟩ := as_over hb1); clear hb1))
  all_goals (try go_region)
  all_goals (try go_wp2)
  all_goals go_returns
  all_goals first | refine ⟨rfl, ?_⟩ | (refine And.intro rfl ?_) | (refine And.intro (by first | (simp; done) | (simp; omega)) ?_)
  all_goals repeat (first | (with_reducible exact Below.refl _ _) | (with_reducible refine bov ?_ _) | (with_reducible refine bta ?_ _) | (with_reducible refine btd ?_) | (with_reducible refine Below.setCell ?_ (by simp) _))

set_option maxHeartbeats 1000000 in
theorem rgrant_lo {a b c d : Int} (h : okL a b c d) (g0 : d + a ≤ 1099511627776) (g1 : 1 ≤ d + a - b) (g2 : a / 2 ≤ d + a - b) (w : World) :
    Calls Try.prog 23 #[.agg #[.int .i64 a, .int .i64 b, .int .i64 c, .int .i64 d]] w fun e w' => e = .returned (.tuple #[.agg #[.int .i64 a, .int .i64 (d + a), .int .i64 c, .int .i64 d], .int .i64 (d + a - b)]) ∧ Below w.heap.size w w' := by
  have H := Lib.hid h
  unfold okL at h
  obtain ⟨h1, h2, h3, h4, h5, h6⟩ := h
  have h7 : 0 ≤ c := by omega
  have h8 : 0 ≤ b := by omega
  have h9 : 0 ≤ a / 2 ∧ a / 2 ≤ 524288 := by omega
  go_enter Try.func23, Try.ntmps23
  go_wp2_with (first | ((with_reducible refine (rcheck_yes H.out _).mono ?_); rintro e w1 ⟨rfl, hb1⟩; (first | obtain ⟨x1, rfl⟩ := as_over2 hb1 | obtain ⟨x1, rfl⟩ := as_over hb1); clear hb1))
  all_goals (try go_region)
  all_goals (try go_wp2)
  all_goals go_returns
  all_goals first | refine ⟨rfl, ?_⟩ | (refine And.intro rfl ?_) | (refine And.intro (by first | (simp; done) | (simp; omega)) ?_)
  all_goals repeat (first | (with_reducible exact Below.refl _ _) | (with_reducible refine bov ?_ _) | (with_reducible refine bta ?_ _) | (with_reducible refine btd ?_) | (with_reducible refine Below.setCell ?_ (by simp) _))

set_option maxHeartbeats 1000000 in
theorem rgrant_lo1 {a b c d : Int} (h : okL a b c d) (g0 : d + a ≤ 1099511627776) (g1 : d + a - b < 1) (w : World) :
    Calls Try.prog 23 #[.agg #[.int .i64 a, .int .i64 b, .int .i64 c, .int .i64 d]] w fun e w' => e = .returned (.tuple #[.agg #[.int .i64 a, .int .i64 b, .int .i64 c, .int .i64 d], .int .i64 (0)]) ∧ Below w.heap.size w w' := by
  have H := Lib.hid h
  unfold okL at h
  obtain ⟨h1, h2, h3, h4, h5, h6⟩ := h
  have h7 : 0 ≤ c := by omega
  have h8 : 0 ≤ b := by omega
  have h9 : 0 ≤ a / 2 ∧ a / 2 ≤ 524288 := by omega
  go_enter Try.func23, Try.ntmps23
  go_wp2_with (first | ((with_reducible refine (rcheck_yes H.out _).mono ?_); rintro e w1 ⟨rfl, hb1⟩; (first | obtain ⟨x1, rfl⟩ := as_over2 hb1 | obtain ⟨x1, rfl⟩ := as_over hb1); clear hb1))
  all_goals (try go_region)
  all_goals (try go_wp2)
  all_goals go_returns
  all_goals first | refine ⟨rfl, ?_⟩ | (refine And.intro rfl ?_) | (refine And.intro (by first | (simp; done) | (simp; omega)) ?_)
  all_goals repeat (first | (with_reducible exact Below.refl _ _) | (with_reducible refine bov ?_ _) | (with_reducible refine bta ?_ _) | (with_reducible refine btd ?_) | (with_reducible refine Below.setCell ?_ (by simp) _))

set_option maxHeartbeats 1000000 in
theorem rgrant_lo2 {a b c d : Int} (h : okL a b c d) (g0 : d + a ≤ 1099511627776) (g1 : 1 ≤ d + a - b) (g2 : d + a - b < a / 2) (w : World) :
    Calls Try.prog 23 #[.agg #[.int .i64 a, .int .i64 b, .int .i64 c, .int .i64 d]] w fun e w' => e = .returned (.tuple #[.agg #[.int .i64 a, .int .i64 b, .int .i64 c, .int .i64 d], .int .i64 (0)]) ∧ Below w.heap.size w w' := by
  have H := Lib.hid h
  unfold okL at h
  obtain ⟨h1, h2, h3, h4, h5, h6⟩ := h
  have h7 : 0 ≤ c := by omega
  have h8 : 0 ≤ b := by omega
  have h9 : 0 ≤ a / 2 ∧ a / 2 ≤ 524288 := by omega
  go_enter Try.func23, Try.ntmps23
  go_wp2_with (first | ((with_reducible refine (rcheck_yes H.out _).mono ?_); rintro e w1 ⟨rfl, hb1⟩; (first | obtain ⟨x1, rfl⟩ := as_over2 hb1 | obtain ⟨x1, rfl⟩ := as_over hb1); clear hb1))
  all_goals (try go_region)
  all_goals (try go_wp2)
  all_goals go_returns
  all_goals first | refine ⟨rfl, ?_⟩ | (refine And.intro rfl ?_) | (refine And.intro (by first | (simp; done) | (simp; omega)) ?_)
  all_goals repeat (first | (with_reducible exact Below.refl _ _) | (with_reducible refine bov ?_ _) | (with_reducible refine bta ?_ _) | (with_reducible refine btd ?_) | (with_reducible refine Below.setCell ?_ (by simp) _))

set_option maxHeartbeats 1000000 in
theorem rgrant_hi {a b c d : Int} (h : okL a b c d) (g0 : 1099511627776 < d + a) (g1 : 1 ≤ 1099511627776 - b) (g2 : a / 2 ≤ 1099511627776 - b) (w : World) :
    Calls Try.prog 23 #[.agg #[.int .i64 a, .int .i64 b, .int .i64 c, .int .i64 d]] w fun e w' => e = .returned (.tuple #[.agg #[.int .i64 a, .int .i64 1099511627776, .int .i64 c, .int .i64 d], .int .i64 (1099511627776 - b)]) ∧ Below w.heap.size w w' := by
  have H := Lib.hid h
  unfold okL at h
  obtain ⟨h1, h2, h3, h4, h5, h6⟩ := h
  have h7 : 0 ≤ c := by omega
  have h8 : 0 ≤ b := by omega
  have h9 : 0 ≤ a / 2 ∧ a / 2 ≤ 524288 := by omega
  go_enter Try.func23, Try.ntmps23
  go_wp2_with (first | ((with_reducible refine (rcheck_yes H.out _).mono ?_); rintro e w1 ⟨rfl, hb1⟩; (first | obtain ⟨x1, rfl⟩ := as_over2 hb1 | obtain ⟨x1, rfl⟩ := as_over hb1); clear hb1))
  all_goals (try go_region)
  all_goals (try go_wp2)
  all_goals go_returns
  all_goals first | refine ⟨rfl, ?_⟩ | (refine And.intro rfl ?_) | (refine And.intro (by first | (simp; done) | (simp; omega)) ?_)
  all_goals repeat (first | (with_reducible exact Below.refl _ _) | (with_reducible refine bov ?_ _) | (with_reducible refine bta ?_ _) | (with_reducible refine btd ?_) | (with_reducible refine Below.setCell ?_ (by simp) _))

set_option maxHeartbeats 1000000 in
theorem rgrant_hi1 {a b c d : Int} (h : okL a b c d) (g0 : 1099511627776 < d + a) (g1 : 1099511627776 - b < 1) (w : World) :
    Calls Try.prog 23 #[.agg #[.int .i64 a, .int .i64 b, .int .i64 c, .int .i64 d]] w fun e w' => e = .returned (.tuple #[.agg #[.int .i64 a, .int .i64 b, .int .i64 c, .int .i64 d], .int .i64 (0)]) ∧ Below w.heap.size w w' := by
  have H := Lib.hid h
  unfold okL at h
  obtain ⟨h1, h2, h3, h4, h5, h6⟩ := h
  have h7 : 0 ≤ c := by omega
  have h8 : 0 ≤ b := by omega
  have h9 : 0 ≤ a / 2 ∧ a / 2 ≤ 524288 := by omega
  go_enter Try.func23, Try.ntmps23
  go_wp2_with (first | ((with_reducible refine (rcheck_yes H.out _).mono ?_); rintro e w1 ⟨rfl, hb1⟩; (first | obtain ⟨x1, rfl⟩ := as_over2 hb1 | obtain ⟨x1, rfl⟩ := as_over hb1); clear hb1))
  all_goals (try go_region)
  all_goals (try go_wp2)
  all_goals go_returns
  all_goals first | refine ⟨rfl, ?_⟩ | (refine And.intro rfl ?_) | (refine And.intro (by first | (simp; done) | (simp; omega)) ?_)
  all_goals repeat (first | (with_reducible exact Below.refl _ _) | (with_reducible refine bov ?_ _) | (with_reducible refine bta ?_ _) | (with_reducible refine btd ?_) | (with_reducible refine Below.setCell ?_ (by simp) _))

set_option maxHeartbeats 1000000 in
theorem rgrant_hi2 {a b c d : Int} (h : okL a b c d) (g0 : 1099511627776 < d + a) (g1 : 1 ≤ 1099511627776 - b) (g2 : 1099511627776 - b < a / 2) (w : World) :
    Calls Try.prog 23 #[.agg #[.int .i64 a, .int .i64 b, .int .i64 c, .int .i64 d]] w fun e w' => e = .returned (.tuple #[.agg #[.int .i64 a, .int .i64 b, .int .i64 c, .int .i64 d], .int .i64 (0)]) ∧ Below w.heap.size w w' := by
  have H := Lib.hid h
  unfold okL at h
  obtain ⟨h1, h2, h3, h4, h5, h6⟩ := h
  have h7 : 0 ≤ c := by omega
  have h8 : 0 ≤ b := by omega
  have h9 : 0 ≤ a / 2 ∧ a / 2 ≤ 524288 := by omega
  go_enter Try.func23, Try.ntmps23
  go_wp2_with (first | ((with_reducible refine (rcheck_yes H.out _).mono ?_); rintro e w1 ⟨rfl, hb1⟩; (first | obtain ⟨x1, rfl⟩ := as_over2 hb1 | obtain ⟨x1, rfl⟩ := as_over hb1); clear hb1))
  all_goals (try go_region)
  all_goals (try go_wp2)
  all_goals go_returns
  all_goals first | refine ⟨rfl, ?_⟩ | (refine And.intro rfl ?_) | (refine And.intro (by first | (simp; done) | (simp; omega)) ?_)
  all_goals repeat (first | (with_reducible exact Below.refl _ _) | (with_reducible refine bov ?_ _) | (with_reducible refine bta ?_ _) | (with_reducible refine btd ?_) | (with_reducible refine Below.setCell ?_ (by simp) _))

set_option maxHeartbeats 1000000 in
theorem rgrant_no {a b c d : Int} (h : ¬ okL a b c d)  (w : World) :
    Calls Try.prog 23 #[.agg #[.int .i64 a, .int .i64 b, .int .i64 c, .int .i64 d]] w fun e w' => e = .returned (.tuple #[.agg #[.int .i64 a, .int .i64 b, .int .i64 c, .int .i64 d], .int .i64 (0)]) ∧ Below w.heap.size w w' := by
  have H := Lib.hid h
  clear h
  go_enter Try.func23, Try.ntmps23
  go_wp2_with (first | ((with_reducible refine (rcheck_no H.out _).mono ?_); rintro e w1 ⟨rfl, hb1⟩; (first | obtain ⟨x1, rfl⟩ := as_over2 hb1 | obtain ⟨x1, rfl⟩ := as_over hb1); clear hb1))
  all_goals (try go_region)
  all_goals (try go_wp2)
  all_goals go_returns
  all_goals first | refine ⟨rfl, ?_⟩ | (refine And.intro rfl ?_) | (refine And.intro (by first | (simp; done) | (simp; omega)) ?_)
  all_goals repeat (first | (with_reducible exact Below.refl _ _) | (with_reducible refine bov ?_ _) | (with_reducible refine bta ?_ _) | (with_reducible refine btd ?_) | (with_reducible refine Below.setCell ?_ (by simp) _))

set_option maxHeartbeats 1000000 in
theorem new_yes {n : Int} (g1 : 1 ≤ n) (g2 : n ≤ 1048576) (w : World) :
    Calls Try.prog 7 #[.int .i64 n] w fun e w' => e = .returned (.tuple #[.agg #[.int .i64 n, .int .i64 n, .int .i64 0, .int .i64 0], .int .i64 (0)]) ∧ Below w.heap.size w w' := by
  have H := Lib.hid (show okL n n 0 0 by unfold okL; omega)
  clear g1 g2
  go_enter Try.func7, Try.ntmps7
  go_wp2_with ((with_reducible refine (check_yes H.out _).mono ?_); rintro e w1 ⟨rfl, hb1⟩; (first | obtain ⟨x1, rfl⟩ := as_over2 hb1 | obtain ⟨x1, rfl⟩ := as_over hb1); clear hb1)
  all_goals go_returns
  all_goals first | refine ⟨rfl, ?_⟩ | (refine And.intro rfl ?_) | (refine And.intro (by first | (simp; done) | (simp; omega)) ?_)
  all_goals repeat (first | (with_reducible exact Below.refl _ _) | (with_reducible refine bov ?_ _) | (with_reducible refine bta ?_ _) | (with_reducible refine btd ?_) | (with_reducible refine Below.setCell ?_ (by simp) _))

set_option maxHeartbeats 1000000 in
theorem new_no {n : Int} (g1 : n < 1 ∨ 1048576 < n) (w : World) :
    Calls Try.prog 7 #[.int .i64 n] w fun e w' => e = .returned (.tuple #[.agg #[.int .i64 0, .int .i64 0, .int .i64 0, .int .i64 0], .int .i64 (8)]) ∧ Below w.heap.size w w' := by
  have H := Lib.hid (show ¬ okL n n 0 0 by unfold okL; omega)
  clear g1
  go_enter Try.func7, Try.ntmps7
  go_wp2_with ((with_reducible refine (check_no H.out _).mono ?_); rintro e w1 ⟨rfl, hb1⟩; (first | obtain ⟨x1, rfl⟩ := as_over2 hb1 | obtain ⟨x1, rfl⟩ := as_over hb1); clear hb1)
  all_goals go_returns
  all_goals first | refine ⟨rfl, ?_⟩ | (refine And.intro rfl ?_) | (refine And.intro (by first | (simp; done) | (simp; omega)) ?_)
  all_goals repeat (first | (with_reducible exact Below.refl _ _) | (with_reducible refine bov ?_ _) | (with_reducible refine bta ?_ _) | (with_reducible refine btd ?_) | (with_reducible refine Below.setCell ?_ (by simp) _))

set_option maxHeartbeats 1000000 in
theorem rnew_yes {n : Int} (g1 : 1 ≤ n) (g2 : n ≤ 1048576) (w : World) :
    Calls Try.prog 8 #[.int .i64 n] w fun e w' => e = .returned (.tuple #[.agg #[.int .i64 n, .int .i64 n, .int .i64 0, .int .i64 0], .int .i64 (0)]) ∧ Below w.heap.size w w' := by
  have H := Lib.hid (show okL n n 0 0 by unfold okL; omega)
  clear g1 g2
  go_enter Try.func8, Try.ntmps8
  go_wp2_with ((with_reducible refine (rcheck_yes H.out _).mono ?_); rintro e w1 ⟨rfl, hb1⟩; (first | obtain ⟨x1, rfl⟩ := as_over2 hb1 | obtain ⟨x1, rfl⟩ := as_over hb1); clear hb1)
  all_goals go_returns
  all_goals first | refine ⟨rfl, ?_⟩ | (refine And.intro rfl ?_) | (refine And.intro (by first | (simp; done) | (simp; omega)) ?_)
  all_goals repeat (first | (with_reducible exact Below.refl _ _) | (with_reducible refine bov ?_ _) | (with_reducible refine bta ?_ _) | (with_reducible refine btd ?_) | (with_reducible refine Below.setCell ?_ (by simp) _))

set_option maxHeartbeats 1000000 in
theorem rnew_no {n : Int} (g1 : n < 1 ∨ 1048576 < n) (w : World) :
    Calls Try.prog 8 #[.int .i64 n] w fun e w' => e = .returned (.tuple #[.agg #[.int .i64 0, .int .i64 0, .int .i64 0, .int .i64 0], .int .i64 (8)]) ∧ Below w.heap.size w w' := by
  have H := Lib.hid (show ¬ okL n n 0 0 by unfold okL; omega)
  clear g1
  go_enter Try.func8, Try.ntmps8
  go_wp2_with ((with_reducible refine (rcheck_no H.out _).mono ?_); rintro e w1 ⟨rfl, hb1⟩; (first | obtain ⟨x1, rfl⟩ := as_over2 hb1 | obtain ⟨x1, rfl⟩ := as_over hb1); clear hb1)
  all_goals go_returns
  all_goals first | refine ⟨rfl, ?_⟩ | (refine And.intro rfl ?_) | (refine And.intro (by first | (simp; done) | (simp; omega)) ?_)
  all_goals repeat (first | (with_reducible exact Below.refl _ _) | (with_reducible refine bov ?_ _) | (with_reducible refine bta ?_ _) | (with_reducible refine btd ?_) | (with_reducible refine Below.setCell ?_ (by simp) _))

end Go.Proofs.Ytfdikbbojddbmaa
