/- The contracts of Fault, Worse, Carried of both packages and of the law's back. No conditions beyond the arguments being bytes. -/
import Derived.Test.YtppmjbjgcakieaaC2
namespace Go.Proofs.Ytppmjbjgcakieaa
open Go.RowKit

theorem ret_b {a b : Bool} (h : a = b) : Ending.returned (.bool a) = .returned (.bool b) := by rw [h]

set_option maxHeartbeats 400000 in
/-- rules.Fault -/
theorem fault_any (e : Int) (w : World) :
    Calls Try.prog 9 #[.int .i64 e] w fun x w' => x = .returned (.agg #[.int .i64 (faultV e).1, .int .u32 (faultV e).2]) ∧ Below w.heap.size w w' := by
  go_enter Try.func9, Try.ntmps9
  go_wp2
  all_goals go_returns
  all_goals refine ⟨ret_v ?_, by go_grown⟩
  all_goals go_light
  all_goals try simp only [beq_iff_eq, beq_eq_false_iff_ne, ne_eq, Bool.or_eq_true, Bool.or_eq_false_iff, decide_eq_true_eq, decide_eq_false_iff_not] at *
  all_goals unfold faultV
  all_goals repeat' split
  all_goals first | rfl | (exfalso; omega)

set_option maxHeartbeats 400000 in
/-- ref.Fault -/
theorem rfault_any (e : Int) (w : World) :
    Calls Try.prog 13 #[.int .i64 e] w fun x w' => x = .returned (.agg #[.int .i64 (faultV e).1, .int .i64 (faultV e).2]) ∧ Below w.heap.size w w' := by
  go_enter Try.func13, Try.ntmps13
  go_wp2
  all_goals go_returns
  all_goals refine ⟨ret_v ?_, by go_grown⟩
  all_goals go_light
  all_goals try simp only [beq_iff_eq, beq_eq_false_iff_ne, ne_eq, Bool.or_eq_true, Bool.or_eq_false_iff, decide_eq_true_eq, decide_eq_false_iff_not] at *
  all_goals unfold faultV
  all_goals repeat' split
  all_goals first | rfl | (exfalso; omega)

set_option maxHeartbeats 400000 in
/-- rules.Worse -/
theorem worse_any (a b c d : Int) (w : World) :
    Calls Try.prog 11 #[.agg #[.int .i64 a, .int .u32 b], .agg #[.int .i64 c, .int .u32 d]] w fun x w' => x = .returned (.agg #[.int .i64 (worseV (a, b) (c, d)).1, .int .u32 (worseV (a, b) (c, d)).2]) ∧ Below w.heap.size w w' := by
  go_enter Try.func11, Try.ntmps11
  go_wp2
  all_goals go_returns
  all_goals refine ⟨ret_v ?_, by go_grown⟩
  all_goals go_light
  all_goals try simp only [beq_iff_eq, beq_eq_false_iff_ne, ne_eq, Bool.or_eq_true, Bool.or_eq_false_iff, decide_eq_true_eq, decide_eq_false_iff_not] at *
  all_goals unfold worseV
  all_goals repeat' split
  all_goals first | rfl | (exfalso; omega)

set_option maxHeartbeats 400000 in
/-- ref.Worse -/
theorem rworse_any (a b c d : Int) (w : World) :
    Calls Try.prog 12 #[.agg #[.int .i64 a, .int .i64 b], .agg #[.int .i64 c, .int .i64 d]] w fun x w' => x = .returned (.agg #[.int .i64 (worseV (a, b) (c, d)).1, .int .i64 (worseV (a, b) (c, d)).2]) ∧ Below w.heap.size w w' := by
  go_enter Try.func12, Try.ntmps12
  go_wp2
  all_goals go_returns
  all_goals refine ⟨ret_v ?_, by go_grown⟩
  all_goals go_light
  all_goals try simp only [beq_iff_eq, beq_eq_false_iff_ne, ne_eq, Bool.or_eq_true, Bool.or_eq_false_iff, decide_eq_true_eq, decide_eq_false_iff_not] at *
  all_goals unfold worseV
  all_goals repeat' split
  all_goals first | rfl | (exfalso; omega)

set_option maxHeartbeats 400000 in
/-- back, of codes from 0 to 255 -/
theorem back_any (a b : Int) (h0 : 0 ≤ b) (h1 : b ≤ 255) (w : World) :
    Calls Try.prog 10 #[.agg #[.int .i64 a, .int .u32 b]] w fun x w' => x = .returned (.agg #[.int .i64 a, .int .i64 b]) ∧ Below w.heap.size w w' := by
  go_enter Try.func10, Try.ntmps10
  go_wp2
  all_goals go_returns
  all_goals refine ⟨ret_v ?_, by go_grown⟩
  all_goals go_light
  all_goals first | rfl | (congr 1; go_arith) | trace_state

set_option maxHeartbeats 400000 in
/-- rules.Carried -/
theorem carried_any (k : Nat) (w : World) :
    Calls Try.prog 14 #[.int .u8 k] w fun x w' => x = .returned (.bool (carriedV k)) ∧ Below w.heap.size w w' := by
  go_enter Try.func14, Try.ntmps14
  go_wp2
  all_goals go_returns
  all_goals refine ⟨ret_b ?_, by go_grown⟩
  all_goals go_light
  all_goals try simp only [beq_iff_eq, beq_eq_false_iff_ne, ne_eq, Bool.or_eq_true, Bool.or_eq_false_iff, decide_eq_true_eq, decide_eq_false_iff_not] at *
  all_goals unfold carriedV
  all_goals first | exact (decide_eq_true (by omega)).symm | exact (decide_eq_false (by omega)).symm

set_option maxHeartbeats 400000 in
/-- ref.Carried -/
theorem rcarried_any (k : Nat) (w : World) :
    Calls Try.prog 15 #[.int .u8 k] w fun x w' => x = .returned (.bool (carriedV k)) ∧ Below w.heap.size w w' := by
  go_enter Try.func15, Try.ntmps15
  go_wp2
  all_goals go_returns
  all_goals refine ⟨ret_b ?_, by go_grown⟩
  all_goals go_light
  · unfold carriedV
    rw [Bool.eq_iff_iff]
    show ((k : Int) != 5) = true ↔ _
    simp only [bne_iff_ne, ne_eq, decide_eq_true_eq]
    omega
  · exact (decide_eq_false (by omega)).symm
  · exact (decide_eq_false (by omega)).symm

end Go.Proofs.Ytppmjbjgcakieaa
