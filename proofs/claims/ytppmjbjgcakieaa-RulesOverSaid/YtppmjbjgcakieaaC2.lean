/- The contracts of the other functions of the packages rules and sennitref17 that hold no loop: each returns what a plain function of integers computes, and leaves all memory that stood before as it was. No conditions beyond the arguments being bytes. -/
import Derived.Test.YtppmjbjgcakieaaC1
namespace Go.Proofs.Ytppmjbjgcakieaa
open Go.RowKit

def faultV (e : Int) : Int × Int := if e = 0 then (0, 0) else if e = 5 then (3, 6) else (3, 1)
def worseV (a b : Int × Int) : Int × Int := if a.1 < b.1 then b else a
def carriedV (k : Nat) : Bool := decide (1 ≤ k ∧ k ≤ 8 ∧ k ≠ 5)

theorem ref_a {k c : Nat} (h : k = 5 ∨ 10 < k ∨ 6 < c) : (3, 2) = judV k c := by
  unfold judV
  rw [if_pos (by omega)]
theorem ref_b {k c : Nat} (h : ¬ (k = 5 ∨ 10 < k ∨ 6 < c) ∧ (((k = 0 ∨ k = 8 ∨ k = 9 ∨ k = 3) ∧ (c = 1 ∨ c = 6)) ∨ (k = 1 ∧ c ≠ 1 ∧ c ≠ 4 ∧ c ≠ 5) ∨ (k = 2 ∧ c = 0) ∨ (k = 3 ∧ c = 0) ∨ (k ≠ 0 ∧ k ≠ 1 ∧ k ≠ 2 ∧ k ≠ 3 ∧ k ≠ 8 ∧ k ≠ 9 ∧ c ≠ 0))) : (3, 1) = judV k c := by
  have all : ∀ k : Fin 11, ∀ c : Fin 7, (¬ (k.1 = 5 ∨ 10 < k.1 ∨ 6 < c.1) ∧ (((k.1 = 0 ∨ k.1 = 8 ∨ k.1 = 9 ∨ k.1 = 3) ∧ (c.1 = 1 ∨ c.1 = 6)) ∨ (k.1 = 1 ∧ c.1 ≠ 1 ∧ c.1 ≠ 4 ∧ c.1 ≠ 5) ∨ (k.1 = 2 ∧ c.1 = 0) ∨ (k.1 = 3 ∧ c.1 = 0) ∨ (k.1 ≠ 0 ∧ k.1 ≠ 1 ∧ k.1 ≠ 2 ∧ k.1 ≠ 3 ∧ k.1 ≠ 8 ∧ k.1 ≠ 9 ∧ c.1 ≠ 0))) → (3, 1) = judV k.1 c.1 := by decide +kernel
  exact all ⟨k, by omega⟩ ⟨c, by omega⟩ h
theorem ref_c {k c : Nat} (h : (k = 0 ∨ k = 8 ∨ k = 9 ∨ k = 3) ∧ (c = 4 ∨ c = 5)) : (1, 0) = judV k c := by
  have all : ∀ k : Fin 11, ∀ c : Fin 7, ((k.1 = 0 ∨ k.1 = 8 ∨ k.1 = 9 ∨ k.1 = 3) ∧ (c.1 = 4 ∨ c.1 = 5)) → (1, 0) = judV k.1 c.1 := by decide +kernel
  exact all ⟨k, by omega⟩ ⟨c, by omega⟩ h
theorem ref_d {k c : Nat} (h : k = 1 ∧ (c = 4 ∨ c = 5)) : (3, 5) = judV k c := by
  have all : ∀ k : Fin 11, ∀ c : Fin 7, (k.1 = 1 ∧ (c.1 = 4 ∨ c.1 = 5)) → (3, 5) = judV k.1 c.1 := by decide +kernel
  exact all ⟨k, by omega⟩ ⟨c, by omega⟩ h
theorem ref_e {k c : Nat} (h : ¬ (k = 5 ∨ 10 < k ∨ 6 < c) ∧ (((k = 0 ∨ k = 8 ∨ k = 9) ∧ (c = 0 ∨ c = 2 ∨ c = 3)) ∨ (k = 1 ∧ c = 1) ∨ (k = 2 ∧ c ≠ 0) ∨ (k = 3 ∧ (c = 2 ∨ c = 3)) ∨ (k ≠ 0 ∧ k ≠ 1 ∧ k ≠ 2 ∧ k ≠ 3 ∧ k ≠ 8 ∧ k ≠ 9 ∧ c = 0))) : (0, 0) = judV k c := by
  have all : ∀ k : Fin 11, ∀ c : Fin 7, (¬ (k.1 = 5 ∨ 10 < k.1 ∨ 6 < c.1) ∧ (((k.1 = 0 ∨ k.1 = 8 ∨ k.1 = 9) ∧ (c.1 = 0 ∨ c.1 = 2 ∨ c.1 = 3)) ∨ (k.1 = 1 ∧ c.1 = 1) ∨ (k.1 = 2 ∧ c.1 ≠ 0) ∨ (k.1 = 3 ∧ (c.1 = 2 ∨ c.1 = 3)) ∨ (k.1 ≠ 0 ∧ k.1 ≠ 1 ∧ k.1 ≠ 2 ∧ k.1 ≠ 3 ∧ k.1 ≠ 8 ∧ k.1 ≠ 9 ∧ c.1 = 0))) → (0, 0) = judV k.1 c.1 := by decide +kernel
  exact all ⟨k, by omega⟩ ⟨c, by omega⟩ h

set_option maxHeartbeats 2000000 in
/-- ref.Judge -/
theorem rjudge_any (k c : Nat) (w : World) :
    Calls Try.prog 8 #[.int .u8 k, .int .u8 c] w fun e w' => e = .returned (.agg #[.int .i64 (judV k c).1, .int .i64 (judV k c).2]) ∧ Below w.heap.size w w' := by
  go_enter Try.func8, Try.ntmps8
  go_wp2
  all_goals go_returns
  all_goals refine ⟨ret_v ?_, by go_grown⟩
  all_goals go_light
  all_goals try simp only [beq_iff_eq, beq_eq_false_iff_ne, ne_eq, Bool.or_eq_true, Bool.or_eq_false_iff, decide_eq_true_eq, decide_eq_false_iff_not] at *
  all_goals first | exact ref_a (by omega) | exact ref_b (by omega) | exact ref_c (by omega) | exact ref_d (by omega) | exact ref_e (by omega)

end Go.Proofs.Ytppmjbjgcakieaa
