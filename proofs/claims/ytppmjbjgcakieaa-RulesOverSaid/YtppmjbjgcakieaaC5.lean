/- The contract of the law's awake: it returns true, and leaves all memory that stood before as it was. No conditions. -/
import Derived.Test.YtppmjbjgcakieaaC4
namespace Go.Proofs.Ytppmjbjgcakieaa
open Go.RowKit

theorem field0 (x y : Int) (w : World) : (Instr.field 27 (.agg #[.int .i64 x, .int .u32 y]) 0).run Try.prog w = .ok (.int .i64 x) w := by kernel_rfl
theorem field1 (x y : Int) (w : World) : (Instr.field 27 (.agg #[.int .i64 x, .int .u32 y]) 1).run Try.prog w = .ok (.int .u32 y) w := by kernel_rfl

theorem aw_j1 (w : World) : Calls Try.prog 7 #[.int .u8 1, .int .u8 4] w fun e w' => e = .returned (.agg #[.int .i64 3, .int .u32 5]) ∧ Below w.heap.size w w' := judge_any 1 4 w
theorem aw_j2 (w : World) : Calls Try.prog 7 #[.int .u8 0, .int .u8 5] w fun e w' => e = .returned (.agg #[.int .i64 1, .int .u32 0]) ∧ Below w.heap.size w w' := judge_any 0 5 w
theorem aw_j3 (w : World) : Calls Try.prog 7 #[.int .u8 6, .int .u8 0] w fun e w' => e = .returned (.agg #[.int .i64 0, .int .u32 0]) ∧ Below w.heap.size w w' := judge_any 6 0 w
theorem aw_j4 (w : World) : Calls Try.prog 7 #[.int .u8 5, .int .u8 0] w fun e w' => e = .returned (.agg #[.int .i64 3, .int .u32 2]) ∧ Below w.heap.size w w' := judge_any 5 0 w
theorem aw_c1 (w : World) : Calls Try.prog 14 #[.int .u8 8] w fun e w' => e = .returned (.bool true) ∧ Below w.heap.size w w' := carried_any 8 w
theorem aw_c2 (w : World) : Calls Try.prog 14 #[.int .u8 9] w fun e w' => e = .returned (.bool false) ∧ Below w.heap.size w w' := carried_any 9 w
theorem aw_f (w : World) : Calls Try.prog 9 #[.int .i64 5] w fun e w' => e = .returned (.agg #[.int .i64 3, .int .u32 6]) ∧ Below w.heap.size w w' := fault_any 5 w
theorem aw_e (w : World) : Calls Try.prog 11 #[.agg #[.int .i64 2, .int .u32 1], .agg #[.int .i64 2, .int .u32 3]] w fun e w' => e = .returned (.agg #[.int .i64 2, .int .u32 1]) ∧ Below w.heap.size w w' := worse_any 2 1 2 3 w
theorem aw_w (w : World) (b c : Nat) (h1 : w.heap[b]? = some (.cells #[.int .u8 0, .int .u8 1, .int .u8 0] 5 (0, 0))) (h2 : w.heap[c]? = some (.cells #[.int .u8 4, .int .u8 4] 5 (0, 0))) :
    Calls Try.prog 16 #[.slice (some ⟨b, 0, none⟩) 3 3, .slice (some ⟨c, 0, none⟩) 2 2] w fun e w' => e = .returned (.agg #[.int .i64 3, .int .u32 5]) ∧ Below w.heap.size w w' :=
  worst_any (some ⟨b, 0, none⟩) (some ⟨c, 0, none⟩) 3 2 3 2 (fun k => if k = 1 then 1 else 0) (fun _ => 4) w
    (fun k hk => ⟨b, 0, rfl, by
      rw [blk_cell h1]
      match k, hk with
      | 0, _ => rfl
      | 1, _ => rfl
      | 2, _ => rfl⟩)
    (fun k hk => ⟨c, 0, rfl, by
      rw [blk_cell h2]
      match k, hk with
      | 0, _ => rfl
      | 1, _ => rfl⟩) (by decide) (by decide)

set_option maxHeartbeats 1000000 in
theorem awake_any (w : World) : Calls Try.prog 6 #[] w fun e w' => e = .returned (.bool true) ∧ Below w.heap.size w w' := by
  have q0 := field0
  have q1 := field1
  go_enter Try.func6, Try.ntmps6
  go_wp2_with (first | ((with_reducible refine (aw_j1 _).mono ?_); rintro e w1 ⟨rfl, hb1⟩) | ((with_reducible refine (aw_j2 _).mono ?_); rintro e w2 ⟨rfl, hb2⟩) | ((with_reducible refine (aw_j3 _).mono ?_); rintro e w3 ⟨rfl, hb3⟩) | ((with_reducible refine (aw_j4 _).mono ?_); rintro e w4 ⟨rfl, hb4⟩) | ((with_reducible refine (aw_c1 _).mono ?_); rintro e w5 ⟨rfl, hb5⟩) | ((with_reducible refine (aw_c2 _).mono ?_); rintro e w6 ⟨rfl, hb6⟩) | ((with_reducible refine (aw_f _).mono ?_); rintro e w7 ⟨rfl, hb7⟩) | ((with_reducible refine (aw_w _ _ _ ?_ ?_).mono ?_); (exact blk_old (blk_new rfl)); (exact blk_new (by simp)); rintro e w8 ⟨rfl, hb8⟩) | ((with_reducible refine (aw_e _).mono ?_); rintro e w9 ⟨rfl, hb9⟩))
  go_ret
  exact ⟨rfl, bt (bt (bta (bta (bt (bt (bt (bt (bt (bt hb1 hb2) hb3) hb4) hb5) hb6) hb7) _) _) hb8) hb9⟩
end Go.Proofs.Ytppmjbjgcakieaa
