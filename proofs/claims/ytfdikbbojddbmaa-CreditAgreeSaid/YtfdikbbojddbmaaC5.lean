/- The functions on ledgers, of both packages, by plain functions of a ledger's four numbers and a number; and what they are of an act. -/
import Derived.Test.YtfdikbbojddbmaaC3
import Derived.Test.YtfdikbbojddbmaaC4
namespace Go.Proofs.Ytfdikbbojddbmaa
open Go.RowKit
attribute [local go_sem] cell_over frozen_over lt_over le_over ne_over over_ne cell_set_same

abbrev L4 := Int × Int × Int × Int
def ok4 (l : L4) : Prop := okL l.1 l.2.1 l.2.2.1 l.2.2.2
instance (l : L4) : Decidable (ok4 l) := by unfold ok4; infer_instance

def spendV (l : L4) (n : Int) : L4 × Bool := if ok4 l ∧ 0 ≤ n ∧ n ≤ l.2.1 - l.2.2.1 then ((l.1, l.2.1, l.2.2.1 + n, l.2.2.2), true) else (l, false)
def givenV (l : L4) (n : Int) : L4 × Bool := if ok4 l ∧ 1 ≤ n ∧ n ≤ 1099511627776 - l.2.1 then ((l.1, l.2.1 + n, l.2.2.1, l.2.2.2), true) else (l, false)
def reachV (l : L4) (n : Int) : L4 × Int × Bool := if ok4 l ∧ 0 ≤ n ∧ n ≤ l.2.1 then (if n ≤ l.2.2.1 then (l, 0, true) else ((l.1, l.2.1, n, l.2.2.2), n - l.2.2.1, true)) else (l, 0, false)
def eatV (l : L4) (n : Int) : L4 := if ok4 l ∧ 1 ≤ n then (if n ≤ l.2.2.1 - l.2.2.2 then (l.1, l.2.1, l.2.2.1, l.2.2.2 + n) else (l.1, l.2.1, l.2.2.1, l.2.2.1)) else l
def topV (l : L4) : Int := if l.2.2.2 + l.1 ≤ 1099511627776 then l.2.2.2 + l.1 else 1099511627776
def grantV (l : L4) : L4 × Int := if ok4 l ∧ 1 ≤ topV l - l.2.1 ∧ l.1 / 2 ≤ topV l - l.2.1 then ((l.1, topV l, l.2.2.1, l.2.2.2), topV l - l.2.1) else (l, 0)
def newV (n : Int) : L4 × Int := if 1 ≤ n ∧ n ≤ 1048576 then ((n, n, 0, 0), 0) else ((0, 0, 0, 0), 8)

theorem spend_any (a b c d n : Int) (w : World) :
    Calls Try.prog 17 #[.agg #[.int .i64 a, .int .i64 b, .int .i64 c, .int .i64 d], .int .i64 n] w fun e w' => e = .returned (.tuple #[.agg #[.int .i64 (spendV (a, b, c, d) n).1.1, .int .i64 (spendV (a, b, c, d) n).1.2.1, .int .i64 (spendV (a, b, c, d) n).1.2.2.1, .int .i64 (spendV (a, b, c, d) n).1.2.2.2], .bool (spendV (a, b, c, d) n).2]) ∧ Below w.heap.size w w' := by
  unfold spendV
  by_cases h : okL a b c d
  · by_cases h0 : 0 ≤ n
    · by_cases h1 : n ≤ b - c
      · rw [if_pos (show ok4 (a, b, c, d) ∧ _ ∧ _ from ⟨h, h0, h1⟩)]
        exact spend_yes h h0 h1 w
      · rw [if_neg (fun e => h1 e.2.2)]
        exact spend_more h h0 (by omega) w
    · rw [if_neg (fun e => h0 e.2.1)]
      exact spend_neg h (by omega) w
  · rw [if_neg (fun e => h e.1)]
    exact spend_no h w

theorem given_any (a b c d n : Int) (w : World) :
    Calls Try.prog 25 #[.agg #[.int .i64 a, .int .i64 b, .int .i64 c, .int .i64 d], .int .i64 n] w fun e w' => e = .returned (.tuple #[.agg #[.int .i64 (givenV (a, b, c, d) n).1.1, .int .i64 (givenV (a, b, c, d) n).1.2.1, .int .i64 (givenV (a, b, c, d) n).1.2.2.1, .int .i64 (givenV (a, b, c, d) n).1.2.2.2], .bool (givenV (a, b, c, d) n).2]) ∧ Below w.heap.size w w' := by
  unfold givenV
  by_cases h : okL a b c d
  · by_cases h0 : 1 ≤ n
    · by_cases h1 : n ≤ 1099511627776 - b
      · rw [if_pos (show ok4 (a, b, c, d) ∧ _ ∧ _ from ⟨h, h0, h1⟩)]
        exact given_yes h h0 h1 w
      · rw [if_neg (fun e => h1 e.2.2)]
        exact given_more h h0 (by omega) w
    · rw [if_neg (fun e => h0 e.2.1)]
      exact given_neg h (by omega) w
  · rw [if_neg (fun e => h e.1)]
    exact given_no h w

theorem reach_any (a b c d n : Int) (w : World) :
    Calls Try.prog 19 #[.agg #[.int .i64 a, .int .i64 b, .int .i64 c, .int .i64 d], .int .i64 n] w fun e w' => e = .returned (.tuple #[.agg #[.int .i64 (reachV (a, b, c, d) n).1.1, .int .i64 (reachV (a, b, c, d) n).1.2.1, .int .i64 (reachV (a, b, c, d) n).1.2.2.1, .int .i64 (reachV (a, b, c, d) n).1.2.2.2], .int .i64 (reachV (a, b, c, d) n).2.1, .bool (reachV (a, b, c, d) n).2.2]) ∧ Below w.heap.size w w' := by
  unfold reachV
  by_cases h : okL a b c d
  · by_cases h0 : 0 ≤ n
    · by_cases h1 : n ≤ b
      · rw [if_pos (show ok4 (a, b, c, d) ∧ _ ∧ _ from ⟨h, h0, h1⟩)]
        by_cases h2 : n ≤ c
        · rw [if_pos (show n ≤ (a, b, c, d).2.2.1 from h2)]
          exact reach_low h h0 h2 w
        · rw [if_neg (show ¬ n ≤ (a, b, c, d).2.2.1 from h2)]
          exact reach_high h (by omega) h1 w
      · rw [if_neg (fun e => h1 e.2.2)]
        exact reach_more h h0 (by omega) w
    · rw [if_neg (fun e => h0 e.2.1)]
      exact reach_neg h (by omega) w
  · rw [if_neg (fun e => h e.1)]
    exact reach_no h w

theorem eat_any (a b c d n : Int) (w : World) :
    Calls Try.prog 22 #[.agg #[.int .i64 a, .int .i64 b, .int .i64 c, .int .i64 d], .int .i64 n] w fun e w' => e = .returned (.agg #[.int .i64 (eatV (a, b, c, d) n).1, .int .i64 (eatV (a, b, c, d) n).2.1, .int .i64 (eatV (a, b, c, d) n).2.2.1, .int .i64 (eatV (a, b, c, d) n).2.2.2]) ∧ Below w.heap.size w w' := by
  unfold eatV
  by_cases h : okL a b c d
  · by_cases h0 : 1 ≤ n
    · rw [if_pos (show ok4 (a, b, c, d) ∧ _ from ⟨h, h0⟩)]
      by_cases h2 : n ≤ c - d
      · rw [if_pos (show n ≤ (a, b, c, d).2.2.1 - (a, b, c, d).2.2.2 from h2)]
        exact eat_low h h0 h2 w
      · rw [if_neg (show ¬ n ≤ (a, b, c, d).2.2.1 - (a, b, c, d).2.2.2 from h2)]
        exact eat_high h h0 (by omega) w
    · rw [if_neg (fun e => h0 e.2)]
      exact eat_zero h (by omega) w
  · rw [if_neg (fun e => h e.1)]
    exact eat_no h w

theorem grant_any (a b c d : Int) (w : World) :
    Calls Try.prog 21 #[.agg #[.int .i64 a, .int .i64 b, .int .i64 c, .int .i64 d]] w fun e w' => e = .returned (.tuple #[.agg #[.int .i64 (grantV (a, b, c, d)).1.1, .int .i64 (grantV (a, b, c, d)).1.2.1, .int .i64 (grantV (a, b, c, d)).1.2.2.1, .int .i64 (grantV (a, b, c, d)).1.2.2.2], .int .i64 (grantV (a, b, c, d)).2]) ∧ Below w.heap.size w w' := by
  unfold grantV
  by_cases h : okL a b c d
  · by_cases ht : d + a ≤ 1099511627776
    · have et : topV (a, b, c, d) = d + a := if_pos ht
      rw [et]
      by_cases h0 : 1 ≤ d + a - b
      · by_cases h1 : a / 2 ≤ d + a - b
        · rw [if_pos (show ok4 (a, b, c, d) ∧ _ ∧ _ from ⟨h, h0, h1⟩)]
          exact grant_lo h ht h0 h1 w
        · rw [if_neg (fun e => h1 e.2.2)]
          exact grant_lo2 h ht h0 (by omega) w
      · rw [if_neg (fun e => h0 e.2.1)]
        exact grant_lo1 h ht (by omega) w
    · have et : topV (a, b, c, d) = 1099511627776 := if_neg ht
      rw [et]
      by_cases h0 : 1 ≤ 1099511627776 - b
      · by_cases h1 : a / 2 ≤ 1099511627776 - b
        · rw [if_pos (show ok4 (a, b, c, d) ∧ _ ∧ _ from ⟨h, h0, h1⟩)]
          exact grant_hi h (by omega) h0 h1 w
        · rw [if_neg (fun e => h1 e.2.2)]
          exact grant_hi2 h (by omega) h0 (by omega) w
      · rw [if_neg (fun e => h0 e.2.1)]
        exact grant_hi1 h (by omega) (by omega) w
  · rw [if_neg (fun e => h e.1)]
    exact grant_no h w

theorem rspend_any (a b c d n : Int) (w : World) :
    Calls Try.prog 18 #[.agg #[.int .i64 a, .int .i64 b, .int .i64 c, .int .i64 d], .int .i64 n] w fun e w' => e = .returned (.tuple #[.agg #[.int .i64 (spendV (a, b, c, d) n).1.1, .int .i64 (spendV (a, b, c, d) n).1.2.1, .int .i64 (spendV (a, b, c, d) n).1.2.2.1, .int .i64 (spendV (a, b, c, d) n).1.2.2.2], .bool (spendV (a, b, c, d) n).2]) ∧ Below w.heap.size w w' := by
  unfold spendV
  by_cases h : okL a b c d
  · by_cases h0 : 0 ≤ n
    · by_cases h1 : n ≤ b - c
      · rw [if_pos (show ok4 (a, b, c, d) ∧ _ ∧ _ from ⟨h, h0, h1⟩)]
        exact rspend_yes h h0 h1 w
      · rw [if_neg (fun e => h1 e.2.2)]
        exact rspend_more h h0 (by omega) w
    · rw [if_neg (fun e => h0 e.2.1)]
      exact rspend_neg h (by omega) w
  · rw [if_neg (fun e => h e.1)]
    exact rspend_no h w

theorem rgiven_any (a b c d n : Int) (w : World) :
    Calls Try.prog 28 #[.agg #[.int .i64 a, .int .i64 b, .int .i64 c, .int .i64 d], .int .i64 n] w fun e w' => e = .returned (.tuple #[.agg #[.int .i64 (givenV (a, b, c, d) n).1.1, .int .i64 (givenV (a, b, c, d) n).1.2.1, .int .i64 (givenV (a, b, c, d) n).1.2.2.1, .int .i64 (givenV (a, b, c, d) n).1.2.2.2], .bool (givenV (a, b, c, d) n).2]) ∧ Below w.heap.size w w' := by
  unfold givenV
  by_cases h : okL a b c d
  · by_cases h0 : 1 ≤ n
    · by_cases h1 : n ≤ 1099511627776 - b
      · rw [if_pos (show ok4 (a, b, c, d) ∧ _ ∧ _ from ⟨h, h0, h1⟩)]
        exact rgiven_yes h h0 h1 w
      · rw [if_neg (fun e => h1 e.2.2)]
        exact rgiven_more h h0 (by omega) w
    · rw [if_neg (fun e => h0 e.2.1)]
      exact rgiven_neg h (by omega) w
  · rw [if_neg (fun e => h e.1)]
    exact rgiven_no h w

theorem rreach_any (a b c d n : Int) (w : World) :
    Calls Try.prog 20 #[.agg #[.int .i64 a, .int .i64 b, .int .i64 c, .int .i64 d], .int .i64 n] w fun e w' => e = .returned (.tuple #[.agg #[.int .i64 (reachV (a, b, c, d) n).1.1, .int .i64 (reachV (a, b, c, d) n).1.2.1, .int .i64 (reachV (a, b, c, d) n).1.2.2.1, .int .i64 (reachV (a, b, c, d) n).1.2.2.2], .int .i64 (reachV (a, b, c, d) n).2.1, .bool (reachV (a, b, c, d) n).2.2]) ∧ Below w.heap.size w w' := by
  unfold reachV
  by_cases h : okL a b c d
  · by_cases h0 : 0 ≤ n
    · by_cases h1 : n ≤ b
      · rw [if_pos (show ok4 (a, b, c, d) ∧ _ ∧ _ from ⟨h, h0, h1⟩)]
        by_cases h2 : n ≤ c
        · rw [if_pos (show n ≤ (a, b, c, d).2.2.1 from h2)]
          exact rreach_low h h0 h2 w
        · rw [if_neg (show ¬ n ≤ (a, b, c, d).2.2.1 from h2)]
          exact rreach_high h (by omega) h1 w
      · rw [if_neg (fun e => h1 e.2.2)]
        exact rreach_more h h0 (by omega) w
    · rw [if_neg (fun e => h0 e.2.1)]
      exact rreach_neg h (by omega) w
  · rw [if_neg (fun e => h e.1)]
    exact rreach_no h w

theorem reat_any (a b c d n : Int) (w : World) :
    Calls Try.prog 24 #[.agg #[.int .i64 a, .int .i64 b, .int .i64 c, .int .i64 d], .int .i64 n] w fun e w' => e = .returned (.agg #[.int .i64 (eatV (a, b, c, d) n).1, .int .i64 (eatV (a, b, c, d) n).2.1, .int .i64 (eatV (a, b, c, d) n).2.2.1, .int .i64 (eatV (a, b, c, d) n).2.2.2]) ∧ Below w.heap.size w w' := by
  unfold eatV
  by_cases h : okL a b c d
  · by_cases h0 : 1 ≤ n
    · rw [if_pos (show ok4 (a, b, c, d) ∧ _ from ⟨h, h0⟩)]
      by_cases h2 : n ≤ c - d
      · rw [if_pos (show n ≤ (a, b, c, d).2.2.1 - (a, b, c, d).2.2.2 from h2)]
        exact reat_low h h0 h2 w
      · rw [if_neg (show ¬ n ≤ (a, b, c, d).2.2.1 - (a, b, c, d).2.2.2 from h2)]
        exact reat_high h h0 (by omega) w
    · rw [if_neg (fun e => h0 e.2)]
      exact reat_zero h (by omega) w
  · rw [if_neg (fun e => h e.1)]
    exact reat_no h w

theorem rgrant_any (a b c d : Int) (w : World) :
    Calls Try.prog 23 #[.agg #[.int .i64 a, .int .i64 b, .int .i64 c, .int .i64 d]] w fun e w' => e = .returned (.tuple #[.agg #[.int .i64 (grantV (a, b, c, d)).1.1, .int .i64 (grantV (a, b, c, d)).1.2.1, .int .i64 (grantV (a, b, c, d)).1.2.2.1, .int .i64 (grantV (a, b, c, d)).1.2.2.2], .int .i64 (grantV (a, b, c, d)).2]) ∧ Below w.heap.size w w' := by
  unfold grantV
  by_cases h : okL a b c d
  · by_cases ht : d + a ≤ 1099511627776
    · have et : topV (a, b, c, d) = d + a := if_pos ht
      rw [et]
      by_cases h0 : 1 ≤ d + a - b
      · by_cases h1 : a / 2 ≤ d + a - b
        · rw [if_pos (show ok4 (a, b, c, d) ∧ _ ∧ _ from ⟨h, h0, h1⟩)]
          exact rgrant_lo h ht h0 h1 w
        · rw [if_neg (fun e => h1 e.2.2)]
          exact rgrant_lo2 h ht h0 (by omega) w
      · rw [if_neg (fun e => h0 e.2.1)]
        exact rgrant_lo1 h ht (by omega) w
    · have et : topV (a, b, c, d) = 1099511627776 := if_neg ht
      rw [et]
      by_cases h0 : 1 ≤ 1099511627776 - b
      · by_cases h1 : a / 2 ≤ 1099511627776 - b
        · rw [if_pos (show ok4 (a, b, c, d) ∧ _ ∧ _ from ⟨h, h0, h1⟩)]
          exact rgrant_hi h (by omega) h0 h1 w
        · rw [if_neg (fun e => h1 e.2.2)]
          exact rgrant_hi2 h (by omega) h0 (by omega) w
      · rw [if_neg (fun e => h0 e.2.1)]
        exact rgrant_hi1 h (by omega) (by omega) w
  · rw [if_neg (fun e => h e.1)]
    exact rgrant_no h w

theorem new_any (n : Int) (w : World) :
    Calls Try.prog 7 #[.int .i64 n] w fun e w' => e = .returned (.tuple #[.agg #[.int .i64 (newV n).1.1, .int .i64 (newV n).1.2.1, .int .i64 (newV n).1.2.2.1, .int .i64 (newV n).1.2.2.2], .int .i64 (newV n).2]) ∧ Below w.heap.size w w' := by
  unfold newV
  by_cases h : 1 ≤ n ∧ n ≤ 1048576
  · rw [if_pos h]
    exact new_yes h.1 h.2 w
  · rw [if_neg h]
    exact new_no (by omega) w

theorem rnew_any (n : Int) (w : World) :
    Calls Try.prog 8 #[.int .i64 n] w fun e w' => e = .returned (.tuple #[.agg #[.int .i64 (newV n).1.1, .int .i64 (newV n).1.2.1, .int .i64 (newV n).1.2.2.1, .int .i64 (newV n).1.2.2.2], .int .i64 (newV n).2]) ∧ Below w.heap.size w w' := by
  unfold newV
  by_cases h : 1 ≤ n ∧ n ≤ 1048576
  · rw [if_pos h]
    exact rnew_yes h.1 h.2 w
  · rw [if_neg h]
    exact rnew_no (by omega) w

end Go.Proofs.Ytfdikbbojddbmaa
