/- The contracts of the functions of the package credit: each returns what a plain function of a ledger's four numbers computes, and leaves all memory that stood before as it was. -/
import Derived.Test.YtfdikbbojddbmaaProg
import Derived.Test.YtfdikbbojddbmaaH
import Derived.Test.YtfdikbbojddbmaaS
import Derived.WalkKit
import Derived.WalkSpells
import Derived.WalkLawsBesides
import Derived.Handy
import Derived.Deep.Light
import Derived.Lib.Hide
namespace Go.Proofs.Ytfdikbbojddbmaa
open Go.RowKit
attribute [local go_sem] cell_over frozen_over

def okL (a b c d : Int) : Prop := 0 ≤ d ∧ d ≤ c ∧ c ≤ b ∧ b ≤ 1099511627776 ∧ 1 ≤ a ∧ a ≤ 1048576
instance (a b c d : Int) : Decidable (okL a b c d) := by unfold okL; infer_instance

def chkV (a b c d : Int) : Int := if okL a b c d then 0 else 8
/-- A ledger's value. -/
def led (a b c d : Int) : Value := .agg #[.int .i64 a, .int .i64 b, .int .i64 c, .int .i64 d]

theorem ret_i {a b : Int} {k : IntKind} (h : a = b) : Ending.returned (.int k a) = .returned (.int k b) := by rw [h]

set_option maxHeartbeats 1000000 in
theorem check_any (a b c d : Int) (w : World) :
    Calls Try.prog 15 #[.agg #[.int .i64 a, .int .i64 b, .int .i64 c, .int .i64 d]] w fun e w' => e = .returned (.int .i64 (chkV a b c d)) ∧ Below w.heap.size w w' := by
  go_enter Try.func15, Try.ntmps15
  go_wp2
  all_goals go_returns
  all_goals refine ⟨ret_i ?_, by go_grown⟩
  all_goals go_light
  all_goals unfold chkV
  all_goals first | (rw [if_neg (show ¬ okL a b c d by unfold okL; omega)]; done) | (rw [if_pos (show okL a b c d by unfold okL; omega)]; done)

theorem check_yes {a b c d : Int} (h : okL a b c d) (w : World) :
    Calls Try.prog 15 #[.agg #[.int .i64 a, .int .i64 b, .int .i64 c, .int .i64 d]] w fun e w' => e = .returned (.int .i64 0) ∧ Below w.heap.size w w' := by
  have := check_any a b c d w
  unfold chkV at this
  rwa [if_pos h] at this
theorem check_no {a b c d : Int} (h : ¬ okL a b c d) (w : World) :
    Calls Try.prog 15 #[.agg #[.int .i64 a, .int .i64 b, .int .i64 c, .int .i64 d]] w fun e w' => e = .returned (.int .i64 8) ∧ Below w.heap.size w w' := by
  have := check_any a b c d w
  unfold chkV at this
  rwa [if_neg h] at this

/-- ref.Check -/
theorem rcheck_yes {a b c d : Int} (h : okL a b c d) (w : World) :
    Calls Try.prog 16 #[.agg #[.int .i64 a, .int .i64 b, .int .i64 c, .int .i64 d]] w fun e w' => e = .returned (.int .i64 0) ∧ Below w.heap.size w w' := by
  unfold okL at h
  obtain ⟨h1, h2, h3, h4, h5, h6⟩ := h
  have h7 : 0 ≤ b := by omega
  have h8 : 0 ≤ c := by omega
  go_enter Try.func16, Try.ntmps16
  go_wp2
  go_returns
  exact ⟨rfl, by go_grown⟩
set_option maxHeartbeats 1000000 in
theorem rcheck_any (a b c d : Int) (w : World) :
    Calls Try.prog 16 #[.agg #[.int .i64 a, .int .i64 b, .int .i64 c, .int .i64 d]] w fun e w' => e = .returned (.int .i64 (chkV a b c d)) ∧ Below w.heap.size w w' := by
  go_enter Try.func16, Try.ntmps16
  go_wp2
  all_goals go_returns
  all_goals refine ⟨ret_i ?_, by go_grown⟩
  all_goals go_light
  all_goals unfold chkV
  all_goals first | (rw [if_neg (show ¬ okL a b c d by unfold okL; omega)]; done) | (rw [if_pos (show okL a b c d by unfold okL; omega)]; done)
theorem rcheck_no {a b c d : Int} (h : ¬ okL a b c d) (w : World) :
    Calls Try.prog 16 #[.agg #[.int .i64 a, .int .i64 b, .int .i64 c, .int .i64 d]] w fun e w' => e = .returned (.int .i64 8) ∧ Below w.heap.size w w' := by
  have := rcheck_any a b c d w
  unfold chkV at this
  rwa [if_neg h] at this

def freeV (a b c d : Int) : Int := if okL a b c d then b - c else 0

set_option maxHeartbeats 1000000 in
theorem free_any (a b c d : Int) (w : World) :
    Calls Try.prog 13 #[.agg #[.int .i64 a, .int .i64 b, .int .i64 c, .int .i64 d]] w fun e w' => e = .returned (.int .i64 (freeV a b c d)) ∧ Below w.heap.size w w' := by
  by_cases h : okL a b c d
  · have H := Lib.hid h
    have b1 : 0 ≤ b - c := by unfold okL at h; omega
    have b2 : b - c ≤ 1099511627776 := by unfold okL at h; omega
    clear h
    go_enter Try.func13, Try.ntmps13
    go_wp2_with ((with_reducible refine (check_yes H.out _).mono ?_); rintro e w1 ⟨rfl, hb1⟩; obtain ⟨x1, rfl⟩ := as_over hb1; have hs1 := hb1.size)
    go_returns
    refine ⟨ret_i ?_, bt (by go_grown) hb1⟩
    unfold freeV
    rw [if_pos H.out]
  · have H := Lib.hid h
    clear h
    go_enter Try.func13, Try.ntmps13
    go_wp2_with ((with_reducible refine (check_no H.out _).mono ?_); rintro e w1 ⟨rfl, hb1⟩; obtain ⟨x1, rfl⟩ := as_over hb1; have hs1 := hb1.size)
    go_returns
    refine ⟨ret_i ?_, bt (by go_grown) hb1⟩
    unfold freeV
    rw [if_neg H.out]

end Go.Proofs.Ytfdikbbojddbmaa
