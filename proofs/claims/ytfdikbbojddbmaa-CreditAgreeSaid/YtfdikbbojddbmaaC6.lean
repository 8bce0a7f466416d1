/- What befalls a ledger by one act, in both packages, by a plain function; it leaves all memory that stood before as it was. -/
import Derived.Test.YtfdikbbojddbmaaC5
namespace Go.Proofs.Ytfdikbbojddbmaa
open Go.RowKit
attribute [local go_sem] cell_over frozen_over lt_over le_over ne_over over_ne cell_set_same

theorem bst {a b : World} (h : Below a.heap.size a b) {p : Addr} (hp : a.heap.size ≤ p.block) (v : Value) : Below a.heap.size a (b.setCell p v) := h.setCell hp v

def oneV (l : L4) (k n : Int) : L4 × Int :=
  if k % 5 = 0 then ((spendV l n).1, if (spendV l n).2 = true then 1 else 0) else
  if k % 5 = 1 then ((givenV l n).1, if (givenV l n).2 = true then 1 else 0) else
  if k % 5 = 2 then ((reachV l n).1, if (reachV l n).2.2 = true then (reachV l n).2.1 else -1) else
  if k % 5 = 3 then (eatV l n, 0) else grantV l

set_option maxHeartbeats 2000000 in
theorem one_0 (a b c d n : Int) (k : Nat) (hk : (k : Int) % 5 = 0) (hk2 : k ≤ 255) (w : World) :
    Calls Try.prog 26 #[.agg #[.int .i64 a, .int .i64 b, .int .i64 c, .int .i64 d], .agg #[.int .u8 k, .int .i64 n]] w fun e w' => e = .returned (.tuple #[.agg #[.int .i64 (spendV (a, b, c, d) n).1.1, .int .i64 (spendV (a, b, c, d) n).1.2.1, .int .i64 (spendV (a, b, c, d) n).1.2.2.1, .int .i64 (spendV (a, b, c, d) n).1.2.2.2], .int .i64 (if (spendV (a, b, c, d) n).2 = true then 1 else 0)]) ∧ Below w.heap.size w w' := by
  have S := spend_any a b c d n
  generalize spendV (a, b, c, d) n = r at S ⊢
  obtain ⟨⟨a', b', c', d'⟩, t⟩ := r
  have H := Lib.hid S
  clear S
  cases t
  all_goals
    go_enter Try.func26, Try.ntmps26
    go_wp2_with ((with_reducible refine (H.out _).mono ?_); rintro e w1 ⟨rfl, hb1⟩; (first | obtain ⟨x1, rfl⟩ := as_over2 hb1 | obtain ⟨x1, rfl⟩ := as_over hb1); clear hb1)
    all_goals (try go_region)
    all_goals (try go_wp2)
  all_goals go_returns
  all_goals first | refine ⟨rfl, ?_⟩ | (refine And.intro rfl ?_) | (refine And.intro (by first | (simp; done) | (simp; omega)) ?_)
  all_goals repeat (first | (with_reducible exact Below.refl _ _) | (with_reducible refine bov ?_ _) | (with_reducible refine bta ?_ _) | (with_reducible refine btd ?_) | (with_reducible refine bst ?_ ?_ _))
  all_goals first | (simp; done) | (simp; omega) | omega

set_option maxHeartbeats 2000000 in
theorem one_1 (a b c d n : Int) (k : Nat) (hk : (k : Int) % 5 = 1) (hk2 : k ≤ 255) (w : World) :
    Calls Try.prog 26 #[.agg #[.int .i64 a, .int .i64 b, .int .i64 c, .int .i64 d], .agg #[.int .u8 k, .int .i64 n]] w fun e w' => e = .returned (.tuple #[.agg #[.int .i64 (givenV (a, b, c, d) n).1.1, .int .i64 (givenV (a, b, c, d) n).1.2.1, .int .i64 (givenV (a, b, c, d) n).1.2.2.1, .int .i64 (givenV (a, b, c, d) n).1.2.2.2], .int .i64 (if (givenV (a, b, c, d) n).2 = true then 1 else 0)]) ∧ Below w.heap.size w w' := by
  have S := given_any a b c d n
  generalize givenV (a, b, c, d) n = r at S ⊢
  obtain ⟨⟨a', b', c', d'⟩, t⟩ := r
  have H := Lib.hid S
  clear S
  cases t
  all_goals
    go_enter Try.func26, Try.ntmps26
    go_wp2_with ((with_reducible refine (H.out _).mono ?_); rintro e w1 ⟨rfl, hb1⟩; (first | obtain ⟨x1, rfl⟩ := as_over2 hb1 | obtain ⟨x1, rfl⟩ := as_over hb1); clear hb1)
    all_goals (try go_region)
    all_goals (try go_wp2)
  all_goals go_returns
  all_goals first | refine ⟨rfl, ?_⟩ | (refine And.intro rfl ?_) | (refine And.intro (by first | (simp; done) | (simp; omega)) ?_)
  all_goals repeat (first | (with_reducible exact Below.refl _ _) | (with_reducible refine bov ?_ _) | (with_reducible refine bta ?_ _) | (with_reducible refine btd ?_) | (with_reducible refine bst ?_ ?_ _))
  all_goals first | (simp; done) | (simp; omega) | omega

set_option maxHeartbeats 2000000 in
theorem one_2 (a b c d n : Int) (k : Nat) (hk : (k : Int) % 5 = 2) (hk2 : k ≤ 255) (w : World) :
    Calls Try.prog 26 #[.agg #[.int .i64 a, .int .i64 b, .int .i64 c, .int .i64 d], .agg #[.int .u8 k, .int .i64 n]] w fun e w' => e = .returned (.tuple #[.agg #[.int .i64 (reachV (a, b, c, d) n).1.1, .int .i64 (reachV (a, b, c, d) n).1.2.1, .int .i64 (reachV (a, b, c, d) n).1.2.2.1, .int .i64 (reachV (a, b, c, d) n).1.2.2.2], .int .i64 (if (reachV (a, b, c, d) n).2.2 = true then (reachV (a, b, c, d) n).2.1 else -1)]) ∧ Below w.heap.size w w' := by
  have S := reach_any a b c d n
  generalize reachV (a, b, c, d) n = r at S ⊢
  obtain ⟨⟨a', b', c', d'⟩, m, t⟩ := r
  have H := Lib.hid S
  clear S
  cases t
  all_goals
    go_enter Try.func26, Try.ntmps26
    go_wp2_with ((with_reducible refine (H.out _).mono ?_); rintro e w1 ⟨rfl, hb1⟩; (first | obtain ⟨x1, rfl⟩ := as_over2 hb1 | obtain ⟨x1, rfl⟩ := as_over hb1); clear hb1)
    all_goals (try go_region)
    all_goals (try go_wp2)
  all_goals go_returns
  all_goals first | refine ⟨rfl, ?_⟩ | (refine And.intro rfl ?_) | (refine And.intro (by first | (simp; done) | (simp; omega)) ?_)
  all_goals repeat (first | (with_reducible exact Below.refl _ _) | (with_reducible refine bov ?_ _) | (with_reducible refine bta ?_ _) | (with_reducible refine btd ?_) | (with_reducible refine bst ?_ ?_ _))
  all_goals first | (simp; done) | (simp; omega) | omega

set_option maxHeartbeats 2000000 in
theorem one_3 (a b c d n : Int) (k : Nat) (hk : (k : Int) % 5 = 3) (hk2 : k ≤ 255) (w : World) :
    Calls Try.prog 26 #[.agg #[.int .i64 a, .int .i64 b, .int .i64 c, .int .i64 d], .agg #[.int .u8 k, .int .i64 n]] w fun e w' => e = .returned (.tuple #[.agg #[.int .i64 (eatV (a, b, c, d) n).1, .int .i64 (eatV (a, b, c, d) n).2.1, .int .i64 (eatV (a, b, c, d) n).2.2.1, .int .i64 (eatV (a, b, c, d) n).2.2.2], .int .i64 0]) ∧ Below w.heap.size w w' := by
  have S := eat_any a b c d n
  generalize eatV (a, b, c, d) n = r at S ⊢
  obtain ⟨a', b', c', d'⟩ := r
  have H := Lib.hid S
  clear S
  go_enter Try.func26, Try.ntmps26
  go_wp2_with ((with_reducible refine (H.out _).mono ?_); rintro e w1 ⟨rfl, hb1⟩; (first | obtain ⟨x1, rfl⟩ := as_over2 hb1 | obtain ⟨x1, rfl⟩ := as_over hb1); clear hb1)
  all_goals (try go_region)
  all_goals (try go_wp2)
  all_goals go_returns
  all_goals first | refine ⟨rfl, ?_⟩ | (refine And.intro rfl ?_) | (refine And.intro (by first | (simp; done) | (simp; omega)) ?_)
  all_goals repeat (first | (with_reducible exact Below.refl _ _) | (with_reducible refine bov ?_ _) | (with_reducible refine bta ?_ _) | (with_reducible refine btd ?_) | (with_reducible refine bst ?_ ?_ _))
  all_goals first | (simp; done) | (simp; omega) | omega

set_option maxHeartbeats 2000000 in
theorem one_4 (a b c d n : Int) (k : Nat) (hk : (k : Int) % 5 = 4) (hk2 : k ≤ 255) (w : World) :
    Calls Try.prog 26 #[.agg #[.int .i64 a, .int .i64 b, .int .i64 c, .int .i64 d], .agg #[.int .u8 k, .int .i64 n]] w fun e w' => e = .returned (.tuple #[.agg #[.int .i64 (grantV (a, b, c, d)).1.1, .int .i64 (grantV (a, b, c, d)).1.2.1, .int .i64 (grantV (a, b, c, d)).1.2.2.1, .int .i64 (grantV (a, b, c, d)).1.2.2.2], .int .i64 (grantV (a, b, c, d)).2]) ∧ Below w.heap.size w w' := by
  have S := grant_any a b c d
  generalize grantV (a, b, c, d) = r at S ⊢
  obtain ⟨⟨a', b', c', d'⟩, m⟩ := r
  have H := Lib.hid S
  clear S
  go_enter Try.func26, Try.ntmps26
  go_wp2_with ((with_reducible refine (H.out _).mono ?_); rintro e w1 ⟨rfl, hb1⟩; (first | obtain ⟨x1, rfl⟩ := as_over2 hb1 | obtain ⟨x1, rfl⟩ := as_over hb1); clear hb1)
  all_goals (try go_region)
  all_goals (try go_wp2)
  all_goals go_returns
  all_goals first | refine ⟨rfl, ?_⟩ | (refine And.intro rfl ?_) | (refine And.intro (by first | (simp; done) | (simp; omega)) ?_)
  all_goals repeat (first | (with_reducible exact Below.refl _ _) | (with_reducible refine bov ?_ _) | (with_reducible refine bta ?_ _) | (with_reducible refine btd ?_) | (with_reducible refine bst ?_ ?_ _))
  all_goals first | (simp; done) | (simp; omega) | omega

theorem one_any (a b c d n : Int) (k : Nat) (hk2 : k ≤ 255) (w : World) :
    Calls Try.prog 26 #[.agg #[.int .i64 a, .int .i64 b, .int .i64 c, .int .i64 d], .agg #[.int .u8 k, .int .i64 n]] w fun e w' => e = .returned (.tuple #[.agg #[.int .i64 (oneV (a, b, c, d) k n).1.1, .int .i64 (oneV (a, b, c, d) k n).1.2.1, .int .i64 (oneV (a, b, c, d) k n).1.2.2.1, .int .i64 (oneV (a, b, c, d) k n).1.2.2.2], .int .i64 (oneV (a, b, c, d) k n).2]) ∧ Below w.heap.size w w' := by
  have h5 : (k : Int) % 5 = 0 ∨ (k : Int) % 5 = 1 ∨ (k : Int) % 5 = 2 ∨ (k : Int) % 5 = 3 ∨ (k : Int) % 5 = 4 := by omega
  unfold oneV
  rcases h5 with h | h | h | h | h
  · rw [if_pos h]; exact one_0 a b c d n k h hk2 w
  · rw [if_neg (by omega), if_pos h]; exact one_1 a b c d n k h hk2 w
  · rw [if_neg (by omega), if_neg (by omega), if_pos h]; exact one_2 a b c d n k h hk2 w
  · rw [if_neg (by omega), if_neg (by omega), if_neg (by omega), if_pos h]; exact one_3 a b c d n k h hk2 w
  · rw [if_neg (by omega), if_neg (by omega), if_neg (by omega), if_neg (by omega)]; exact one_4 a b c d n k h hk2 w

set_option maxHeartbeats 2000000 in
theorem rone_0 (a b c d n : Int) (k : Nat) (hk : (k : Int) % 5 = 0) (hk2 : k ≤ 255) (w : World) :
    Calls Try.prog 27 #[.agg #[.int .i64 a, .int .i64 b, .int .i64 c, .int .i64 d], .agg #[.int .u8 k, .int .i64 n]] w fun e w' => e = .returned (.tuple #[.agg #[.int .i64 (spendV (a, b, c, d) n).1.1, .int .i64 (spendV (a, b, c, d) n).1.2.1, .int .i64 (spendV (a, b, c, d) n).1.2.2.1, .int .i64 (spendV (a, b, c, d) n).1.2.2.2], .int .i64 (if (spendV (a, b, c, d) n).2 = true then 1 else 0)]) ∧ Below w.heap.size w w' := by
  have S := rspend_any a b c d n
  generalize spendV (a, b, c, d) n = r at S ⊢
  obtain ⟨⟨a', b', c', d'⟩, t⟩ := r
  have H := Lib.hid S
  clear S
  cases t
  all_goals
    go_enter Try.func27, Try.ntmps27
    go_wp2_with ((with_reducible refine (H.out _).mono ?_); rintro e w1 ⟨rfl, hb1⟩; (first | obtain ⟨x1, rfl⟩ := as_over2 hb1 | obtain ⟨x1, rfl⟩ := as_over hb1); clear hb1)
    all_goals (try go_region)
    all_goals (try go_wp2)
  all_goals go_returns
  all_goals first | refine ⟨rfl, ?_⟩ | (refine And.intro rfl ?_) | (refine And.intro (by first | (simp; done) | (simp; omega)) ?_)
  all_goals repeat (first | (with_reducible exact Below.refl _ _) | (with_reducible refine bov ?_ _) | (with_reducible refine bta ?_ _) | (with_reducible refine btd ?_) | (with_reducible refine bst ?_ ?_ _))
  all_goals first | (simp; done) | (simp; omega) | omega

set_option maxHeartbeats 2000000 in
theorem rone_1 (a b c d n : Int) (k : Nat) (hk : (k : Int) % 5 = 1) (hk2 : k ≤ 255) (w : World) :
    Calls Try.prog 27 #[.agg #[.int .i64 a, .int .i64 b, .int .i64 c, .int .i64 d], .agg #[.int .u8 k, .int .i64 n]] w fun e w' => e = .returned (.tuple #[.agg #[.int .i64 (givenV (a, b, c, d) n).1.1, .int .i64 (givenV (a, b, c, d) n).1.2.1, .int .i64 (givenV (a, b, c, d) n).1.2.2.1, .int .i64 (givenV (a, b, c, d) n).1.2.2.2], .int .i64 (if (givenV (a, b, c, d) n).2 = true then 1 else 0)]) ∧ Below w.heap.size w w' := by
  have S := rgiven_any a b c d n
  generalize givenV (a, b, c, d) n = r at S ⊢
  obtain ⟨⟨a', b', c', d'⟩, t⟩ := r
  have H := Lib.hid S
  clear S
  cases t
  all_goals
    go_enter Try.func27, Try.ntmps27
    go_wp2_with ((with_reducible refine (H.out _).mono ?_); rintro e w1 ⟨rfl, hb1⟩; (first | obtain ⟨x1, rfl⟩ := as_over2 hb1 | obtain ⟨x1, rfl⟩ := as_over hb1); clear hb1)
    all_goals (try go_region)
    all_goals (try go_wp2)
  all_goals go_returns
  all_goals first | refine ⟨rfl, ?_⟩ | (refine And.intro rfl ?_) | (refine And.intro (by first | (simp; done) | (simp; omega)) ?_)
  all_goals repeat (first | (with_reducible exact Below.refl _ _) | (with_reducible refine bov ?_ _) | (with_reducible refine bta ?_ _) | (with_reducible refine btd ?_) | (with_reducible refine bst ?_ ?_ _))
  all_goals first | (simp; done) | (simp; omega) | omega

set_option maxHeartbeats 2000000 in
theorem rone_2 (a b c d n : Int) (k : Nat) (hk : (k : Int) % 5 = 2) (hk2 : k ≤ 255) (w : World) :
    Calls Try.prog 27 #[.agg #[.int .i64 a, .int .i64 b, .int .i64 c, .int .i64 d], .agg #[.int .u8 k, .int .i64 n]] w fun e w' => e = .returned (.tuple #[.agg #[.int .i64 (reachV (a, b, c, d) n).1.1, .int .i64 (reachV (a, b, c, d) n).1.2.1, .int .i64 (reachV (a, b, c, d) n).1.2.2.1, .int .i64 (reachV (a, b, c, d) n).1.2.2.2], .int .i64 (if (reachV (a, b, c, d) n).2.2 = true then (reachV (a, b, c, d) n).2.1 else -1)]) ∧ Below w.heap.size w w' := by
  have S := rreach_any a b c d n
  generalize reachV (a, b, c, d) n = r at S ⊢
  obtain ⟨⟨a', b', c', d'⟩, m, t⟩ := r
  have H := Lib.hid S
  clear S
  cases t
  all_goals
    go_enter Try.func27, Try.ntmps27
    go_wp2_with ((with_reducible refine (H.out _).mono ?_); rintro e w1 ⟨rfl, hb1⟩; (first | obtain ⟨x1, rfl⟩ := as_over2 hb1 | obtain ⟨x1, rfl⟩ := as_over hb1); clear hb1)
    all_goals (try go_region)
    all_goals (try go_wp2)
  all_goals go_returns
  all_goals first | refine ⟨rfl, ?_⟩ | (refine And.intro rfl ?_) | (refine And.intro (by first | (simp; done) | (simp; omega)) ?_)
  all_goals repeat (first | (with_reducible exact Below.refl _ _) | (with_reducible refine bov ?_ _) | (with_reducible refine bta ?_ _) | (with_reducible refine btd ?_) | (with_reducible refine bst ?_ ?_ _))
  all_goals first | (simp; done) | (simp; omega) | omega

set_option maxHeartbeats 2000000 in
theorem rone_3 (a b c d n : Int) (k : Nat) (hk : (k : Int) % 5 = 3) (hk2 : k ≤ 255) (w : World) :
    Calls Try.prog 27 #[.agg #[.int .i64 a, .int .i64 b, .int .i64 c, .int .i64 d], .agg #[.int .u8 k, .int .i64 n]] w fun e w' => e = .returned (.tuple #[.agg #[.int .i64 (eatV (a, b, c, d) n).1, .int .i64 (eatV (a, b, c, d) n).2.1, .int .i64 (eatV (a, b, c, d) n).2.2.1, .int .i64 (eatV (a, b, c, d) n).2.2.2], .int .i64 0]) ∧ Below w.heap.size w w' := by
  have S := reat_any a b c d n
  generalize eatV (a, b, c, d) n = r at S ⊢
  obtain ⟨a', b', c', d'⟩ := r
  have H := Lib.hid S
  clear S
  go_enter Try.func27, Try.ntmps27
  go_wp2_with ((with_reducible refine (H.out _).mono ?_); rintro e w1 ⟨rfl, hb1⟩; (first | obtain ⟨x1, rfl⟩ := as_over2 hb1 | obtain ⟨x1, rfl⟩ := as_over hb1); clear hb1)
  all_goals (try go_region)
  all_goals (try go_wp2)
  all_goals go_returns
  all_goals first | refine ⟨rfl, ?_⟩ | (refine And.intro rfl ?_) | (refine And.intro (by first | (simp; done) | (simp; omega)) ?_)
  all_goals repeat (first | (with_reducible exact Below.refl _ _) | (with_reducible refine bov ?_ _) | (with_reducible refine bta ?_ _) | (with_reducible refine btd ?_) | (with_reducible refine bst ?_ ?_ _))
  all_goals first | (simp; done) | (simp; omega) | omega

set_option maxHeartbeats 2000000 in
theorem rone_4 (a b c d n : Int) (k : Nat) (hk : (k : Int) % 5 = 4) (hk2 : k ≤ 255) (w : World) :
    Calls Try.prog 27 #[.agg #[.int .i64 a, .int .i64 b, .int .i64 c, .int .i64 d], .agg #[.int .u8 k, .int .i64 n]] w fun e w' => e = .returned (.tuple #[.agg #[.int .i64 (grantV (a, b, c, d)).1.1, .int .i64 (grantV (a, b, c, d)).1.2.1, .int .i64 (grantV (a, b, c, d)).1.2.2.1, .int .i64 (grantV (a, b, c, d)).1.2.2.2], .int .i64 (grantV (a, b, c, d)).2]) ∧ Below w.heap.size w w' := by
  have S := rgrant_any a b c d
  generalize grantV (a, b, c, d) = r at S ⊢
  obtain ⟨⟨a', b', c', d'⟩, m⟩ := r
  have H := Lib.hid S
  clear S
  go_enter Try.func27, Try.ntmps27
  go_wp2_with ((with_reducible refine (H.out _).mono ?_); rintro e w1 ⟨rfl, hb1⟩; (first | obtain ⟨x1, rfl⟩ := as_over2 hb1 | obtain ⟨x1, rfl⟩ := as_over hb1); clear hb1)
  all_goals (try go_region)
  all_goals (try go_wp2)
  all_goals go_returns
  all_goals first | refine ⟨rfl, ?_⟩ | (refine And.intro rfl ?_) | (refine And.intro (by first | (simp; done) | (simp; omega)) ?_)
  all_goals repeat (first | (with_reducible exact Below.refl _ _) | (with_reducible refine bov ?_ _) | (with_reducible refine bta ?_ _) | (with_reducible refine btd ?_) | (with_reducible refine bst ?_ ?_ _))
  all_goals first | (simp; done) | (simp; omega) | omega

theorem rone_any (a b c d n : Int) (k : Nat) (hk2 : k ≤ 255) (w : World) :
    Calls Try.prog 27 #[.agg #[.int .i64 a, .int .i64 b, .int .i64 c, .int .i64 d], .agg #[.int .u8 k, .int .i64 n]] w fun e w' => e = .returned (.tuple #[.agg #[.int .i64 (oneV (a, b, c, d) k n).1.1, .int .i64 (oneV (a, b, c, d) k n).1.2.1, .int .i64 (oneV (a, b, c, d) k n).1.2.2.1, .int .i64 (oneV (a, b, c, d) k n).1.2.2.2], .int .i64 (oneV (a, b, c, d) k n).2]) ∧ Below w.heap.size w w' := by
  have h5 : (k : Int) % 5 = 0 ∨ (k : Int) % 5 = 1 ∨ (k : Int) % 5 = 2 ∨ (k : Int) % 5 = 3 ∨ (k : Int) % 5 = 4 := by omega
  unfold oneV
  rcases h5 with h | h | h | h | h
  · rw [if_pos h]; exact rone_0 a b c d n k h hk2 w
  · rw [if_neg (by omega), if_pos h]; exact rone_1 a b c d n k h hk2 w
  · rw [if_neg (by omega), if_neg (by omega), if_pos h]; exact rone_2 a b c d n k h hk2 w
  · rw [if_neg (by omega), if_neg (by omega), if_neg (by omega), if_pos h]; exact rone_3 a b c d n k h hk2 w
  · rw [if_neg (by omega), if_neg (by omega), if_neg (by omega), if_neg (by omega)]; exact rone_4 a b c d n k h hk2 w

end Go.Proofs.Ytfdikbbojddbmaa
