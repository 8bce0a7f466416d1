/- The law RulesOver returns true whatever the two bytes: one theorem for each remainder of the kind by 11 and of the class by 7. No conditions. -/
import Derived.Test.YtppmjbjgcakieaaC5
namespace Go.Proofs.Ytppmjbjgcakieaa
open Go.RowKit

set_option maxHeartbeats 400000 in
theorem over_0_0 (kind cls : Nat) (h1 : kind ≤ 255) (h2 : cls ≤ 255) (w : World) (hk : (kind : Int) % 11 = 0) (hc : (cls : Int) % 7 = 0) :
    Calls Try.prog 4 #[.int .u8 kind, .int .u8 cls] w fun e w' => e = .returned (.bool true) ∧ Below w.heap.size w w' := by
  have J : ∀ w : World, Calls Try.prog 7 #[.int .u8 0, .int .u8 0] w fun e w' => e = .returned (.agg #[.int .i64 0, .int .u32 0]) ∧ Below w.heap.size w w' := fun w => judge_any 0 0 w
  have HJ := Lib.hid J
  clear J
  go_enter Try.func4, Try.ntmps4
  go_wp2_with (first | ((with_reducible refine (HJ.out _).mono ?_); rintro e w1 ⟨rfl, hb1⟩) | ((with_reducible refine (awake_any _).mono ?_); rintro e w2 ⟨rfl, hb2⟩))
  go_ret
  exact ⟨rfl, bt (bta hb1 _) hb2⟩

set_option maxHeartbeats 400000 in
theorem over_0_1 (kind cls : Nat) (h1 : kind ≤ 255) (h2 : cls ≤ 255) (w : World) (hk : (kind : Int) % 11 = 0) (hc : (cls : Int) % 7 = 1) :
    Calls Try.prog 4 #[.int .u8 kind, .int .u8 cls] w fun e w' => e = .returned (.bool true) ∧ Below w.heap.size w w' := by
  have J : ∀ w : World, Calls Try.prog 7 #[.int .u8 0, .int .u8 1] w fun e w' => e = .returned (.agg #[.int .i64 3, .int .u32 1]) ∧ Below w.heap.size w w' := fun w => judge_any 0 1 w
  have HJ := Lib.hid J
  clear J
  go_enter Try.func4, Try.ntmps4
  go_wp2_with (first | ((with_reducible refine (HJ.out _).mono ?_); rintro e w1 ⟨rfl, hb1⟩) | ((with_reducible refine (awake_any _).mono ?_); rintro e w2 ⟨rfl, hb2⟩))
  go_ret
  exact ⟨rfl, bt (bta hb1 _) hb2⟩

set_option maxHeartbeats 400000 in
theorem over_0_2 (kind cls : Nat) (h1 : kind ≤ 255) (h2 : cls ≤ 255) (w : World) (hk : (kind : Int) % 11 = 0) (hc : (cls : Int) % 7 = 2) :
    Calls Try.prog 4 #[.int .u8 kind, .int .u8 cls] w fun e w' => e = .returned (.bool true) ∧ Below w.heap.size w w' := by
  have J : ∀ w : World, Calls Try.prog 7 #[.int .u8 0, .int .u8 2] w fun e w' => e = .returned (.agg #[.int .i64 0, .int .u32 0]) ∧ Below w.heap.size w w' := fun w => judge_any 0 2 w
  have HJ := Lib.hid J
  clear J
  go_enter Try.func4, Try.ntmps4
  go_wp2_with (first | ((with_reducible refine (HJ.out _).mono ?_); rintro e w1 ⟨rfl, hb1⟩) | ((with_reducible refine (awake_any _).mono ?_); rintro e w2 ⟨rfl, hb2⟩))
  go_ret
  exact ⟨rfl, bt (bta hb1 _) hb2⟩

set_option maxHeartbeats 400000 in
theorem over_0_3 (kind cls : Nat) (h1 : kind ≤ 255) (h2 : cls ≤ 255) (w : World) (hk : (kind : Int) % 11 = 0) (hc : (cls : Int) % 7 = 3) :
    Calls Try.prog 4 #[.int .u8 kind, .int .u8 cls] w fun e w' => e = .returned (.bool true) ∧ Below w.heap.size w w' := by
  have J : ∀ w : World, Calls Try.prog 7 #[.int .u8 0, .int .u8 3] w fun e w' => e = .returned (.agg #[.int .i64 0, .int .u32 0]) ∧ Below w.heap.size w w' := fun w => judge_any 0 3 w
  have HJ := Lib.hid J
  clear J
  go_enter Try.func4, Try.ntmps4
  go_wp2_with (first | ((with_reducible refine (HJ.out _).mono ?_); rintro e w1 ⟨rfl, hb1⟩) | ((with_reducible refine (awake_any _).mono ?_); rintro e w2 ⟨rfl, hb2⟩))
  go_ret
  exact ⟨rfl, bt (bta hb1 _) hb2⟩

set_option maxHeartbeats 400000 in
theorem over_0_4 (kind cls : Nat) (h1 : kind ≤ 255) (h2 : cls ≤ 255) (w : World) (hk : (kind : Int) % 11 = 0) (hc : (cls : Int) % 7 = 4) :
    Calls Try.prog 4 #[.int .u8 kind, .int .u8 cls] w fun e w' => e = .returned (.bool true) ∧ Below w.heap.size w w' := by
  have J : ∀ w : World, Calls Try.prog 7 #[.int .u8 0, .int .u8 4] w fun e w' => e = .returned (.agg #[.int .i64 1, .int .u32 0]) ∧ Below w.heap.size w w' := fun w => judge_any 0 4 w
  have HJ := Lib.hid J
  clear J
  go_enter Try.func4, Try.ntmps4
  go_wp2_with (first | ((with_reducible refine (HJ.out _).mono ?_); rintro e w1 ⟨rfl, hb1⟩) | ((with_reducible refine (awake_any _).mono ?_); rintro e w2 ⟨rfl, hb2⟩))
  go_ret
  exact ⟨rfl, bt (bta hb1 _) hb2⟩

set_option maxHeartbeats 400000 in
theorem over_0_5 (kind cls : Nat) (h1 : kind ≤ 255) (h2 : cls ≤ 255) (w : World) (hk : (kind : Int) % 11 = 0) (hc : (cls : Int) % 7 = 5) :
    Calls Try.prog 4 #[.int .u8 kind, .int .u8 cls] w fun e w' => e = .returned (.bool true) ∧ Below w.heap.size w w' := by
  have J : ∀ w : World, Calls Try.prog 7 #[.int .u8 0, .int .u8 5] w fun e w' => e = .returned (.agg #[.int .i64 1, .int .u32 0]) ∧ Below w.heap.size w w' := fun w => judge_any 0 5 w
  have HJ := Lib.hid J
  clear J
  go_enter Try.func4, Try.ntmps4
  go_wp2_with (first | ((with_reducible refine (HJ.out _).mono ?_); rintro e w1 ⟨rfl, hb1⟩) | ((with_reducible refine (awake_any _).mono ?_); rintro e w2 ⟨rfl, hb2⟩))
  go_ret
  exact ⟨rfl, bt (bta hb1 _) hb2⟩

set_option maxHeartbeats 400000 in
theorem over_0_6 (kind cls : Nat) (h1 : kind ≤ 255) (h2 : cls ≤ 255) (w : World) (hk : (kind : Int) % 11 = 0) (hc : (cls : Int) % 7 = 6) :
    Calls Try.prog 4 #[.int .u8 kind, .int .u8 cls] w fun e w' => e = .returned (.bool true) ∧ Below w.heap.size w w' := by
  have J : ∀ w : World, Calls Try.prog 7 #[.int .u8 0, .int .u8 6] w fun e w' => e = .returned (.agg #[.int .i64 3, .int .u32 1]) ∧ Below w.heap.size w w' := fun w => judge_any 0 6 w
  have HJ := Lib.hid J
  clear J
  go_enter Try.func4, Try.ntmps4
  go_wp2_with (first | ((with_reducible refine (HJ.out _).mono ?_); rintro e w1 ⟨rfl, hb1⟩) | ((with_reducible refine (awake_any _).mono ?_); rintro e w2 ⟨rfl, hb2⟩))
  go_ret
  exact ⟨rfl, bt (bta hb1 _) hb2⟩

set_option maxHeartbeats 400000 in
theorem over_1_0 (kind cls : Nat) (h1 : kind ≤ 255) (h2 : cls ≤ 255) (w : World) (hk : (kind : Int) % 11 = 1) (hc : (cls : Int) % 7 = 0) :
    Calls Try.prog 4 #[.int .u8 kind, .int .u8 cls] w fun e w' => e = .returned (.bool true) ∧ Below w.heap.size w w' := by
  have J : ∀ w : World, Calls Try.prog 7 #[.int .u8 1, .int .u8 0] w fun e w' => e = .returned (.agg #[.int .i64 3, .int .u32 1]) ∧ Below w.heap.size w w' := fun w => judge_any 1 0 w
  have HJ := Lib.hid J
  clear J
  go_enter Try.func4, Try.ntmps4
  go_wp2_with (first | ((with_reducible refine (HJ.out _).mono ?_); rintro e w1 ⟨rfl, hb1⟩) | ((with_reducible refine (awake_any _).mono ?_); rintro e w2 ⟨rfl, hb2⟩))
  go_ret
  exact ⟨rfl, bt (bta hb1 _) hb2⟩

set_option maxHeartbeats 400000 in
theorem over_1_1 (kind cls : Nat) (h1 : kind ≤ 255) (h2 : cls ≤ 255) (w : World) (hk : (kind : Int) % 11 = 1) (hc : (cls : Int) % 7 = 1) :
    Calls Try.prog 4 #[.int .u8 kind, .int .u8 cls] w fun e w' => e = .returned (.bool true) ∧ Below w.heap.size w w' := by
  have J : ∀ w : World, Calls Try.prog 7 #[.int .u8 1, .int .u8 1] w fun e w' => e = .returned (.agg #[.int .i64 0, .int .u32 0]) ∧ Below w.heap.size w w' := fun w => judge_any 1 1 w
  have HJ := Lib.hid J
  clear J
  go_enter Try.func4, Try.ntmps4
  go_wp2_with (first | ((with_reducible refine (HJ.out _).mono ?_); rintro e w1 ⟨rfl, hb1⟩) | ((with_reducible refine (awake_any _).mono ?_); rintro e w2 ⟨rfl, hb2⟩))
  go_ret
  exact ⟨rfl, bt (bta hb1 _) hb2⟩

set_option maxHeartbeats 400000 in
theorem over_1_2 (kind cls : Nat) (h1 : kind ≤ 255) (h2 : cls ≤ 255) (w : World) (hk : (kind : Int) % 11 = 1) (hc : (cls : Int) % 7 = 2) :
    Calls Try.prog 4 #[.int .u8 kind, .int .u8 cls] w fun e w' => e = .returned (.bool true) ∧ Below w.heap.size w w' := by
  have J : ∀ w : World, Calls Try.prog 7 #[.int .u8 1, .int .u8 2] w fun e w' => e = .returned (.agg #[.int .i64 3, .int .u32 1]) ∧ Below w.heap.size w w' := fun w => judge_any 1 2 w
  have HJ := Lib.hid J
  clear J
  go_enter Try.func4, Try.ntmps4
  go_wp2_with (first | ((with_reducible refine (HJ.out _).mono ?_); rintro e w1 ⟨rfl, hb1⟩) | ((with_reducible refine (awake_any _).mono ?_); rintro e w2 ⟨rfl, hb2⟩))
  go_ret
  exact ⟨rfl, bt (bta hb1 _) hb2⟩

set_option maxHeartbeats 400000 in
theorem over_1_3 (kind cls : Nat) (h1 : kind ≤ 255) (h2 : cls ≤ 255) (w : World) (hk : (kind : Int) % 11 = 1) (hc : (cls : Int) % 7 = 3) :
    Calls Try.prog 4 #[.int .u8 kind, .int .u8 cls] w fun e w' => e = .returned (.bool true) ∧ Below w.heap.size w w' := by
  have J : ∀ w : World, Calls Try.prog 7 #[.int .u8 1, .int .u8 3] w fun e w' => e = .returned (.agg #[.int .i64 3, .int .u32 1]) ∧ Below w.heap.size w w' := fun w => judge_any 1 3 w
  have HJ := Lib.hid J
  clear J
  go_enter Try.func4, Try.ntmps4
  go_wp2_with (first | ((with_reducible refine (HJ.out _).mono ?_); rintro e w1 ⟨rfl, hb1⟩) | ((with_reducible refine (awake_any _).mono ?_); rintro e w2 ⟨rfl, hb2⟩))
  go_ret
  exact ⟨rfl, bt (bta hb1 _) hb2⟩

set_option maxHeartbeats 400000 in
theorem over_1_4 (kind cls : Nat) (h1 : kind ≤ 255) (h2 : cls ≤ 255) (w : World) (hk : (kind : Int) % 11 = 1) (hc : (cls : Int) % 7 = 4) :
    Calls Try.prog 4 #[.int .u8 kind, .int .u8 cls] w fun e w' => e = .returned (.bool true) ∧ Below w.heap.size w w' := by
  have J : ∀ w : World, Calls Try.prog 7 #[.int .u8 1, .int .u8 4] w fun e w' => e = .returned (.agg #[.int .i64 3, .int .u32 5]) ∧ Below w.heap.size w w' := fun w => judge_any 1 4 w
  have HJ := Lib.hid J
  clear J
  go_enter Try.func4, Try.ntmps4
  go_wp2_with (first | ((with_reducible refine (HJ.out _).mono ?_); rintro e w1 ⟨rfl, hb1⟩) | ((with_reducible refine (awake_any _).mono ?_); rintro e w2 ⟨rfl, hb2⟩))
  go_ret
  exact ⟨rfl, bt (bta hb1 _) hb2⟩

set_option maxHeartbeats 400000 in
theorem over_1_5 (kind cls : Nat) (h1 : kind ≤ 255) (h2 : cls ≤ 255) (w : World) (hk : (kind : Int) % 11 = 1) (hc : (cls : Int) % 7 = 5) :
    Calls Try.prog 4 #[.int .u8 kind, .int .u8 cls] w fun e w' => e = .returned (.bool true) ∧ Below w.heap.size w w' := by
  have J : ∀ w : World, Calls Try.prog 7 #[.int .u8 1, .int .u8 5] w fun e w' => e = .returned (.agg #[.int .i64 3, .int .u32 5]) ∧ Below w.heap.size w w' := fun w => judge_any 1 5 w
  have HJ := Lib.hid J
  clear J
  go_enter Try.func4, Try.ntmps4
  go_wp2_with (first | ((with_reducible refine (HJ.out _).mono ?_); rintro e w1 ⟨rfl, hb1⟩) | ((with_reducible refine (awake_any _).mono ?_); rintro e w2 ⟨rfl, hb2⟩))
  go_ret
  exact ⟨rfl, bt (bta hb1 _) hb2⟩

set_option maxHeartbeats 400000 in
theorem over_1_6 (kind cls : Nat) (h1 : kind ≤ 255) (h2 : cls ≤ 255) (w : World) (hk : (kind : Int) % 11 = 1) (hc : (cls : Int) % 7 = 6) :
    Calls Try.prog 4 #[.int .u8 kind, .int .u8 cls] w fun e w' => e = .returned (.bool true) ∧ Below w.heap.size w w' := by
  have J : ∀ w : World, Calls Try.prog 7 #[.int .u8 1, .int .u8 6] w fun e w' => e = .returned (.agg #[.int .i64 3, .int .u32 1]) ∧ Below w.heap.size w w' := fun w => judge_any 1 6 w
  have HJ := Lib.hid J
  clear J
  go_enter Try.func4, Try.ntmps4
  go_wp2_with (first | ((with_reducible refine (HJ.out _).mono ?_); rintro e w1 ⟨rfl, hb1⟩) | ((with_reducible refine (awake_any _).mono ?_); rintro e w2 ⟨rfl, hb2⟩))
  go_ret
  exact ⟨rfl, bt (bta hb1 _) hb2⟩

set_option maxHeartbeats 400000 in
theorem over_2_0 (kind cls : Nat) (h1 : kind ≤ 255) (h2 : cls ≤ 255) (w : World) (hk : (kind : Int) % 11 = 2) (hc : (cls : Int) % 7 = 0) :
    Calls Try.prog 4 #[.int .u8 kind, .int .u8 cls] w fun e w' => e = .returned (.bool true) ∧ Below w.heap.size w w' := by
  have J : ∀ w : World, Calls Try.prog 7 #[.int .u8 2, .int .u8 0] w fun e w' => e = .returned (.agg #[.int .i64 3, .int .u32 1]) ∧ Below w.heap.size w w' := fun w => judge_any 2 0 w
  have HJ := Lib.hid J
  clear J
  go_enter Try.func4, Try.ntmps4
  go_wp2_with (first | ((with_reducible refine (HJ.out _).mono ?_); rintro e w1 ⟨rfl, hb1⟩) | ((with_reducible refine (awake_any _).mono ?_); rintro e w2 ⟨rfl, hb2⟩))
  go_ret
  exact ⟨rfl, bt (bta hb1 _) hb2⟩

set_option maxHeartbeats 400000 in
theorem over_2_1 (kind cls : Nat) (h1 : kind ≤ 255) (h2 : cls ≤ 255) (w : World) (hk : (kind : Int) % 11 = 2) (hc : (cls : Int) % 7 = 1) :
    Calls Try.prog 4 #[.int .u8 kind, .int .u8 cls] w fun e w' => e = .returned (.bool true) ∧ Below w.heap.size w w' := by
  have J : ∀ w : World, Calls Try.prog 7 #[.int .u8 2, .int .u8 1] w fun e w' => e = .returned (.agg #[.int .i64 0, .int .u32 0]) ∧ Below w.heap.size w w' := fun w => judge_any 2 1 w
  have HJ := Lib.hid J
  clear J
  go_enter Try.func4, Try.ntmps4
  go_wp2_with (first | ((with_reducible refine (HJ.out _).mono ?_); rintro e w1 ⟨rfl, hb1⟩) | ((with_reducible refine (awake_any _).mono ?_); rintro e w2 ⟨rfl, hb2⟩))
  go_ret
  exact ⟨rfl, bt (bta hb1 _) hb2⟩

set_option maxHeartbeats 400000 in
theorem over_2_2 (kind cls : Nat) (h1 : kind ≤ 255) (h2 : cls ≤ 255) (w : World) (hk : (kind : Int) % 11 = 2) (hc : (cls : Int) % 7 = 2) :
    Calls Try.prog 4 #[.int .u8 kind, .int .u8 cls] w fun e w' => e = .returned (.bool true) ∧ Below w.heap.size w w' := by
  have J : ∀ w : World, Calls Try.prog 7 #[.int .u8 2, .int .u8 2] w fun e w' => e = .returned (.agg #[.int .i64 0, .int .u32 0]) ∧ Below w.heap.size w w' := fun w => judge_any 2 2 w
  have HJ := Lib.hid J
  clear J
  go_enter Try.func4, Try.ntmps4
  go_wp2_with (first | ((with_reducible refine (HJ.out _).mono ?_); rintro e w1 ⟨rfl, hb1⟩) | ((with_reducible refine (awake_any _).mono ?_); rintro e w2 ⟨rfl, hb2⟩))
  go_ret
  exact ⟨rfl, bt (bta hb1 _) hb2⟩

set_option maxHeartbeats 400000 in
theorem over_2_3 (kind cls : Nat) (h1 : kind ≤ 255) (h2 : cls ≤ 255) (w : World) (hk : (kind : Int) % 11 = 2) (hc : (cls : Int) % 7 = 3) :
    Calls Try.prog 4 #[.int .u8 kind, .int .u8 cls] w fun e w' => e = .returned (.bool true) ∧ Below w.heap.size w w' := by
  have J : ∀ w : World, Calls Try.prog 7 #[.int .u8 2, .int .u8 3] w fun e w' => e = .returned (.agg #[.int .i64 0, .int .u32 0]) ∧ Below w.heap.size w w' := fun w => judge_any 2 3 w
  have HJ := Lib.hid J
  clear J
  go_enter Try.func4, Try.ntmps4
  go_wp2_with (first | ((with_reducible refine (HJ.out _).mono ?_); rintro e w1 ⟨rfl, hb1⟩) | ((with_reducible refine (awake_any _).mono ?_); rintro e w2 ⟨rfl, hb2⟩))
  go_ret
  exact ⟨rfl, bt (bta hb1 _) hb2⟩

set_option maxHeartbeats 400000 in
theorem over_2_4 (kind cls : Nat) (h1 : kind ≤ 255) (h2 : cls ≤ 255) (w : World) (hk : (kind : Int) % 11 = 2) (hc : (cls : Int) % 7 = 4) :
    Calls Try.prog 4 #[.int .u8 kind, .int .u8 cls] w fun e w' => e = .returned (.bool true) ∧ Below w.heap.size w w' := by
  have J : ∀ w : World, Calls Try.prog 7 #[.int .u8 2, .int .u8 4] w fun e w' => e = .returned (.agg #[.int .i64 0, .int .u32 0]) ∧ Below w.heap.size w w' := fun w => judge_any 2 4 w
  have HJ := Lib.hid J
  clear J
  go_enter Try.func4, Try.ntmps4
  go_wp2_with (first | ((with_reducible refine (HJ.out _).mono ?_); rintro e w1 ⟨rfl, hb1⟩) | ((with_reducible refine (awake_any _).mono ?_); rintro e w2 ⟨rfl, hb2⟩))
  go_ret
  exact ⟨rfl, bt (bta hb1 _) hb2⟩

set_option maxHeartbeats 400000 in
theorem over_2_5 (kind cls : Nat) (h1 : kind ≤ 255) (h2 : cls ≤ 255) (w : World) (hk : (kind : Int) % 11 = 2) (hc : (cls : Int) % 7 = 5) :
    Calls Try.prog 4 #[.int .u8 kind, .int .u8 cls] w fun e w' => e = .returned (.bool true) ∧ Below w.heap.size w w' := by
  have J : ∀ w : World, Calls Try.prog 7 #[.int .u8 2, .int .u8 5] w fun e w' => e = .returned (.agg #[.int .i64 0, .int .u32 0]) ∧ Below w.heap.size w w' := fun w => judge_any 2 5 w
  have HJ := Lib.hid J
  clear J
  go_enter Try.func4, Try.ntmps4
  go_wp2_with (first | ((with_reducible refine (HJ.out _).mono ?_); rintro e w1 ⟨rfl, hb1⟩) | ((with_reducible refine (awake_any _).mono ?_); rintro e w2 ⟨rfl, hb2⟩))
  go_ret
  exact ⟨rfl, bt (bta hb1 _) hb2⟩

set_option maxHeartbeats 400000 in
theorem over_2_6 (kind cls : Nat) (h1 : kind ≤ 255) (h2 : cls ≤ 255) (w : World) (hk : (kind : Int) % 11 = 2) (hc : (cls : Int) % 7 = 6) :
    Calls Try.prog 4 #[.int .u8 kind, .int .u8 cls] w fun e w' => e = .returned (.bool true) ∧ Below w.heap.size w w' := by
  have J : ∀ w : World, Calls Try.prog 7 #[.int .u8 2, .int .u8 6] w fun e w' => e = .returned (.agg #[.int .i64 0, .int .u32 0]) ∧ Below w.heap.size w w' := fun w => judge_any 2 6 w
  have HJ := Lib.hid J
  clear J
  go_enter Try.func4, Try.ntmps4
  go_wp2_with (first | ((with_reducible refine (HJ.out _).mono ?_); rintro e w1 ⟨rfl, hb1⟩) | ((with_reducible refine (awake_any _).mono ?_); rintro e w2 ⟨rfl, hb2⟩))
  go_ret
  exact ⟨rfl, bt (bta hb1 _) hb2⟩

set_option maxHeartbeats 400000 in
theorem over_3_0 (kind cls : Nat) (h1 : kind ≤ 255) (h2 : cls ≤ 255) (w : World) (hk : (kind : Int) % 11 = 3) (hc : (cls : Int) % 7 = 0) :
    Calls Try.prog 4 #[.int .u8 kind, .int .u8 cls] w fun e w' => e = .returned (.bool true) ∧ Below w.heap.size w w' := by
  have J : ∀ w : World, Calls Try.prog 7 #[.int .u8 3, .int .u8 0] w fun e w' => e = .returned (.agg #[.int .i64 3, .int .u32 1]) ∧ Below w.heap.size w w' := fun w => judge_any 3 0 w
  have HJ := Lib.hid J
  clear J
  go_enter Try.func4, Try.ntmps4
  go_wp2_with (first | ((with_reducible refine (HJ.out _).mono ?_); rintro e w1 ⟨rfl, hb1⟩) | ((with_reducible refine (awake_any _).mono ?_); rintro e w2 ⟨rfl, hb2⟩))
  go_ret
  exact ⟨rfl, bt (bta hb1 _) hb2⟩

set_option maxHeartbeats 400000 in
theorem over_3_1 (kind cls : Nat) (h1 : kind ≤ 255) (h2 : cls ≤ 255) (w : World) (hk : (kind : Int) % 11 = 3) (hc : (cls : Int) % 7 = 1) :
    Calls Try.prog 4 #[.int .u8 kind, .int .u8 cls] w fun e w' => e = .returned (.bool true) ∧ Below w.heap.size w w' := by
  have J : ∀ w : World, Calls Try.prog 7 #[.int .u8 3, .int .u8 1] w fun e w' => e = .returned (.agg #[.int .i64 3, .int .u32 1]) ∧ Below w.heap.size w w' := fun w => judge_any 3 1 w
  have HJ := Lib.hid J
  clear J
  go_enter Try.func4, Try.ntmps4
  go_wp2_with (first | ((with_reducible refine (HJ.out _).mono ?_); rintro e w1 ⟨rfl, hb1⟩) | ((with_reducible refine (awake_any _).mono ?_); rintro e w2 ⟨rfl, hb2⟩))
  go_ret
  exact ⟨rfl, bt (bta hb1 _) hb2⟩

set_option maxHeartbeats 400000 in
theorem over_3_2 (kind cls : Nat) (h1 : kind ≤ 255) (h2 : cls ≤ 255) (w : World) (hk : (kind : Int) % 11 = 3) (hc : (cls : Int) % 7 = 2) :
    Calls Try.prog 4 #[.int .u8 kind, .int .u8 cls] w fun e w' => e = .returned (.bool true) ∧ Below w.heap.size w w' := by
  have J : ∀ w : World, Calls Try.prog 7 #[.int .u8 3, .int .u8 2] w fun e w' => e = .returned (.agg #[.int .i64 0, .int .u32 0]) ∧ Below w.heap.size w w' := fun w => judge_any 3 2 w
  have HJ := Lib.hid J
  clear J
  go_enter Try.func4, Try.ntmps4
  go_wp2_with (first | ((with_reducible refine (HJ.out _).mono ?_); rintro e w1 ⟨rfl, hb1⟩) | ((with_reducible refine (awake_any _).mono ?_); rintro e w2 ⟨rfl, hb2⟩))
  go_ret
  exact ⟨rfl, bt (bta hb1 _) hb2⟩

set_option maxHeartbeats 400000 in
theorem over_3_3 (kind cls : Nat) (h1 : kind ≤ 255) (h2 : cls ≤ 255) (w : World) (hk : (kind : Int) % 11 = 3) (hc : (cls : Int) % 7 = 3) :
    Calls Try.prog 4 #[.int .u8 kind, .int .u8 cls] w fun e w' => e = .returned (.bool true) ∧ Below w.heap.size w w' := by
  have J : ∀ w : World, Calls Try.prog 7 #[.int .u8 3, .int .u8 3] w fun e w' => e = .returned (.agg #[.int .i64 0, .int .u32 0]) ∧ Below w.heap.size w w' := fun w => judge_any 3 3 w
  have HJ := Lib.hid J
  clear J
  go_enter Try.func4, Try.ntmps4
  go_wp2_with (first | ((with_reducible refine (HJ.out _).mono ?_); rintro e w1 ⟨rfl, hb1⟩) | ((with_reducible refine (awake_any _).mono ?_); rintro e w2 ⟨rfl, hb2⟩))
  go_ret
  exact ⟨rfl, bt (bta hb1 _) hb2⟩

set_option maxHeartbeats 400000 in
theorem over_3_4 (kind cls : Nat) (h1 : kind ≤ 255) (h2 : cls ≤ 255) (w : World) (hk : (kind : Int) % 11 = 3) (hc : (cls : Int) % 7 = 4) :
    Calls Try.prog 4 #[.int .u8 kind, .int .u8 cls] w fun e w' => e = .returned (.bool true) ∧ Below w.heap.size w w' := by
  have J : ∀ w : World, Calls Try.prog 7 #[.int .u8 3, .int .u8 4] w fun e w' => e = .returned (.agg #[.int .i64 1, .int .u32 0]) ∧ Below w.heap.size w w' := fun w => judge_any 3 4 w
  have HJ := Lib.hid J
  clear J
  go_enter Try.func4, Try.ntmps4
  go_wp2_with (first | ((with_reducible refine (HJ.out _).mono ?_); rintro e w1 ⟨rfl, hb1⟩) | ((with_reducible refine (awake_any _).mono ?_); rintro e w2 ⟨rfl, hb2⟩))
  go_ret
  exact ⟨rfl, bt (bta hb1 _) hb2⟩

set_option maxHeartbeats 400000 in
theorem over_3_5 (kind cls : Nat) (h1 : kind ≤ 255) (h2 : cls ≤ 255) (w : World) (hk : (kind : Int) % 11 = 3) (hc : (cls : Int) % 7 = 5) :
    Calls Try.prog 4 #[.int .u8 kind, .int .u8 cls] w fun e w' => e = .returned (.bool true) ∧ Below w.heap.size w w' := by
  have J : ∀ w : World, Calls Try.prog 7 #[.int .u8 3, .int .u8 5] w fun e w' => e = .returned (.agg #[.int .i64 1, .int .u32 0]) ∧ Below w.heap.size w w' := fun w => judge_any 3 5 w
  have HJ := Lib.hid J
  clear J
  go_enter Try.func4, Try.ntmps4
  go_wp2_with (first | ((with_reducible refine (HJ.out _).mono ?_); rintro e w1 ⟨rfl, hb1⟩) | ((with_reducible refine (awake_any _).mono ?_); rintro e w2 ⟨rfl, hb2⟩))
  go_ret
  exact ⟨rfl, bt (bta hb1 _) hb2⟩

set_option maxHeartbeats 400000 in
theorem over_3_6 (kind cls : Nat) (h1 : kind ≤ 255) (h2 : cls ≤ 255) (w : World) (hk : (kind : Int) % 11 = 3) (hc : (cls : Int) % 7 = 6) :
    Calls Try.prog 4 #[.int .u8 kind, .int .u8 cls] w fun e w' => e = .returned (.bool true) ∧ Below w.heap.size w w' := by
  have J : ∀ w : World, Calls Try.prog 7 #[.int .u8 3, .int .u8 6] w fun e w' => e = .returned (.agg #[.int .i64 3, .int .u32 1]) ∧ Below w.heap.size w w' := fun w => judge_any 3 6 w
  have HJ := Lib.hid J
  clear J
  go_enter Try.func4, Try.ntmps4
  go_wp2_with (first | ((with_reducible refine (HJ.out _).mono ?_); rintro e w1 ⟨rfl, hb1⟩) | ((with_reducible refine (awake_any _).mono ?_); rintro e w2 ⟨rfl, hb2⟩))
  go_ret
  exact ⟨rfl, bt (bta hb1 _) hb2⟩

set_option maxHeartbeats 400000 in
theorem over_4_0 (kind cls : Nat) (h1 : kind ≤ 255) (h2 : cls ≤ 255) (w : World) (hk : (kind : Int) % 11 = 4) (hc : (cls : Int) % 7 = 0) :
    Calls Try.prog 4 #[.int .u8 kind, .int .u8 cls] w fun e w' => e = .returned (.bool true) ∧ Below w.heap.size w w' := by
  have J : ∀ w : World, Calls Try.prog 7 #[.int .u8 4, .int .u8 0] w fun e w' => e = .returned (.agg #[.int .i64 0, .int .u32 0]) ∧ Below w.heap.size w w' := fun w => judge_any 4 0 w
  have HJ := Lib.hid J
  clear J
  go_enter Try.func4, Try.ntmps4
  go_wp2_with (first | ((with_reducible refine (HJ.out _).mono ?_); rintro e w1 ⟨rfl, hb1⟩) | ((with_reducible refine (awake_any _).mono ?_); rintro e w2 ⟨rfl, hb2⟩))
  go_ret
  exact ⟨rfl, bt (bta hb1 _) hb2⟩

set_option maxHeartbeats 400000 in
theorem over_4_1 (kind cls : Nat) (h1 : kind ≤ 255) (h2 : cls ≤ 255) (w : World) (hk : (kind : Int) % 11 = 4) (hc : (cls : Int) % 7 = 1) :
    Calls Try.prog 4 #[.int .u8 kind, .int .u8 cls] w fun e w' => e = .returned (.bool true) ∧ Below w.heap.size w w' := by
  have J : ∀ w : World, Calls Try.prog 7 #[.int .u8 4, .int .u8 1] w fun e w' => e = .returned (.agg #[.int .i64 3, .int .u32 1]) ∧ Below w.heap.size w w' := fun w => judge_any 4 1 w
  have HJ := Lib.hid J
  clear J
  go_enter Try.func4, Try.ntmps4
  go_wp2_with (first | ((with_reducible refine (HJ.out _).mono ?_); rintro e w1 ⟨rfl, hb1⟩) | ((with_reducible refine (awake_any _).mono ?_); rintro e w2 ⟨rfl, hb2⟩))
  go_ret
  exact ⟨rfl, bt (bta hb1 _) hb2⟩

set_option maxHeartbeats 400000 in
theorem over_4_2 (kind cls : Nat) (h1 : kind ≤ 255) (h2 : cls ≤ 255) (w : World) (hk : (kind : Int) % 11 = 4) (hc : (cls : Int) % 7 = 2) :
    Calls Try.prog 4 #[.int .u8 kind, .int .u8 cls] w fun e w' => e = .returned (.bool true) ∧ Below w.heap.size w w' := by
  have J : ∀ w : World, Calls Try.prog 7 #[.int .u8 4, .int .u8 2] w fun e w' => e = .returned (.agg #[.int .i64 3, .int .u32 1]) ∧ Below w.heap.size w w' := fun w => judge_any 4 2 w
  have HJ := Lib.hid J
  clear J
  go_enter Try.func4, Try.ntmps4
  go_wp2_with (first | ((with_reducible refine (HJ.out _).mono ?_); rintro e w1 ⟨rfl, hb1⟩) | ((with_reducible refine (awake_any _).mono ?_); rintro e w2 ⟨rfl, hb2⟩))
  go_ret
  exact ⟨rfl, bt (bta hb1 _) hb2⟩

set_option maxHeartbeats 400000 in
theorem over_4_3 (kind cls : Nat) (h1 : kind ≤ 255) (h2 : cls ≤ 255) (w : World) (hk : (kind : Int) % 11 = 4) (hc : (cls : Int) % 7 = 3) :
    Calls Try.prog 4 #[.int .u8 kind, .int .u8 cls] w fun e w' => e = .returned (.bool true) ∧ Below w.heap.size w w' := by
  have J : ∀ w : World, Calls Try.prog 7 #[.int .u8 4, .int .u8 3] w fun e w' => e = .returned (.agg #[.int .i64 3, .int .u32 1]) ∧ Below w.heap.size w w' := fun w => judge_any 4 3 w
  have HJ := Lib.hid J
  clear J
  go_enter Try.func4, Try.ntmps4
  go_wp2_with (first | ((with_reducible refine (HJ.out _).mono ?_); rintro e w1 ⟨rfl, hb1⟩) | ((with_reducible refine (awake_any _).mono ?_); rintro e w2 ⟨rfl, hb2⟩))
  go_ret
  exact ⟨rfl, bt (bta hb1 _) hb2⟩

set_option maxHeartbeats 400000 in
theorem over_4_4 (kind cls : Nat) (h1 : kind ≤ 255) (h2 : cls ≤ 255) (w : World) (hk : (kind : Int) % 11 = 4) (hc : (cls : Int) % 7 = 4) :
    Calls Try.prog 4 #[.int .u8 kind, .int .u8 cls] w fun e w' => e = .returned (.bool true) ∧ Below w.heap.size w w' := by
  have J : ∀ w : World, Calls Try.prog 7 #[.int .u8 4, .int .u8 4] w fun e w' => e = .returned (.agg #[.int .i64 3, .int .u32 1]) ∧ Below w.heap.size w w' := fun w => judge_any 4 4 w
  have HJ := Lib.hid J
  clear J
  go_enter Try.func4, Try.ntmps4
  go_wp2_with (first | ((with_reducible refine (HJ.out _).mono ?_); rintro e w1 ⟨rfl, hb1⟩) | ((with_reducible refine (awake_any _).mono ?_); rintro e w2 ⟨rfl, hb2⟩))
  go_ret
  exact ⟨rfl, bt (bta hb1 _) hb2⟩

set_option maxHeartbeats 400000 in
theorem over_4_5 (kind cls : Nat) (h1 : kind ≤ 255) (h2 : cls ≤ 255) (w : World) (hk : (kind : Int) % 11 = 4) (hc : (cls : Int) % 7 = 5) :
    Calls Try.prog 4 #[.int .u8 kind, .int .u8 cls] w fun e w' => e = .returned (.bool true) ∧ Below w.heap.size w w' := by
  have J : ∀ w : World, Calls Try.prog 7 #[.int .u8 4, .int .u8 5] w fun e w' => e = .returned (.agg #[.int .i64 3, .int .u32 1]) ∧ Below w.heap.size w w' := fun w => judge_any 4 5 w
  have HJ := Lib.hid J
  clear J
  go_enter Try.func4, Try.ntmps4
  go_wp2_with (first | ((with_reducible refine (HJ.out _).mono ?_); rintro e w1 ⟨rfl, hb1⟩) | ((with_reducible refine (awake_any _).mono ?_); rintro e w2 ⟨rfl, hb2⟩))
  go_ret
  exact ⟨rfl, bt (bta hb1 _) hb2⟩

set_option maxHeartbeats 400000 in
theorem over_4_6 (kind cls : Nat) (h1 : kind ≤ 255) (h2 : cls ≤ 255) (w : World) (hk : (kind : Int) % 11 = 4) (hc : (cls : Int) % 7 = 6) :
    Calls Try.prog 4 #[.int .u8 kind, .int .u8 cls] w fun e w' => e = .returned (.bool true) ∧ Below w.heap.size w w' := by
  have J : ∀ w : World, Calls Try.prog 7 #[.int .u8 4, .int .u8 6] w fun e w' => e = .returned (.agg #[.int .i64 3, .int .u32 1]) ∧ Below w.heap.size w w' := fun w => judge_any 4 6 w
  have HJ := Lib.hid J
  clear J
  go_enter Try.func4, Try.ntmps4
  go_wp2_with (first | ((with_reducible refine (HJ.out _).mono ?_); rintro e w1 ⟨rfl, hb1⟩) | ((with_reducible refine (awake_any _).mono ?_); rintro e w2 ⟨rfl, hb2⟩))
  go_ret
  exact ⟨rfl, bt (bta hb1 _) hb2⟩

set_option maxHeartbeats 400000 in
theorem over_5_0 (kind cls : Nat) (h1 : kind ≤ 255) (h2 : cls ≤ 255) (w : World) (hk : (kind : Int) % 11 = 5) (hc : (cls : Int) % 7 = 0) :
    Calls Try.prog 4 #[.int .u8 kind, .int .u8 cls] w fun e w' => e = .returned (.bool true) ∧ Below w.heap.size w w' := by
  have J : ∀ w : World, Calls Try.prog 7 #[.int .u8 5, .int .u8 0] w fun e w' => e = .returned (.agg #[.int .i64 3, .int .u32 2]) ∧ Below w.heap.size w w' := fun w => judge_any 5 0 w
  have HJ := Lib.hid J
  clear J
  go_enter Try.func4, Try.ntmps4
  go_wp2_with (first | ((with_reducible refine (HJ.out _).mono ?_); rintro e w1 ⟨rfl, hb1⟩) | ((with_reducible refine (awake_any _).mono ?_); rintro e w2 ⟨rfl, hb2⟩))
  go_ret
  exact ⟨rfl, bt hb1 hb2⟩

set_option maxHeartbeats 400000 in
theorem over_5_1 (kind cls : Nat) (h1 : kind ≤ 255) (h2 : cls ≤ 255) (w : World) (hk : (kind : Int) % 11 = 5) (hc : (cls : Int) % 7 = 1) :
    Calls Try.prog 4 #[.int .u8 kind, .int .u8 cls] w fun e w' => e = .returned (.bool true) ∧ Below w.heap.size w w' := by
  have J : ∀ w : World, Calls Try.prog 7 #[.int .u8 5, .int .u8 1] w fun e w' => e = .returned (.agg #[.int .i64 3, .int .u32 2]) ∧ Below w.heap.size w w' := fun w => judge_any 5 1 w
  have HJ := Lib.hid J
  clear J
  go_enter Try.func4, Try.ntmps4
  go_wp2_with (first | ((with_reducible refine (HJ.out _).mono ?_); rintro e w1 ⟨rfl, hb1⟩) | ((with_reducible refine (awake_any _).mono ?_); rintro e w2 ⟨rfl, hb2⟩))
  go_ret
  exact ⟨rfl, bt hb1 hb2⟩

set_option maxHeartbeats 400000 in
theorem over_5_2 (kind cls : Nat) (h1 : kind ≤ 255) (h2 : cls ≤ 255) (w : World) (hk : (kind : Int) % 11 = 5) (hc : (cls : Int) % 7 = 2) :
    Calls Try.prog 4 #[.int .u8 kind, .int .u8 cls] w fun e w' => e = .returned (.bool true) ∧ Below w.heap.size w w' := by
  have J : ∀ w : World, Calls Try.prog 7 #[.int .u8 5, .int .u8 2] w fun e w' => e = .returned (.agg #[.int .i64 3, .int .u32 2]) ∧ Below w.heap.size w w' := fun w => judge_any 5 2 w
  have HJ := Lib.hid J
  clear J
  go_enter Try.func4, Try.ntmps4
  go_wp2_with (first | ((with_reducible refine (HJ.out _).mono ?_); rintro e w1 ⟨rfl, hb1⟩) | ((with_reducible refine (awake_any _).mono ?_); rintro e w2 ⟨rfl, hb2⟩))
  go_ret
  exact ⟨rfl, bt hb1 hb2⟩

set_option maxHeartbeats 400000 in
theorem over_5_3 (kind cls : Nat) (h1 : kind ≤ 255) (h2 : cls ≤ 255) (w : World) (hk : (kind : Int) % 11 = 5) (hc : (cls : Int) % 7 = 3) :
    Calls Try.prog 4 #[.int .u8 kind, .int .u8 cls] w fun e w' => e = .returned (.bool true) ∧ Below w.heap.size w w' := by
  have J : ∀ w : World, Calls Try.prog 7 #[.int .u8 5, .int .u8 3] w fun e w' => e = .returned (.agg #[.int .i64 3, .int .u32 2]) ∧ Below w.heap.size w w' := fun w => judge_any 5 3 w
  have HJ := Lib.hid J
  clear J
  go_enter Try.func4, Try.ntmps4
  go_wp2_with (first | ((with_reducible refine (HJ.out _).mono ?_); rintro e w1 ⟨rfl, hb1⟩) | ((with_reducible refine (awake_any _).mono ?_); rintro e w2 ⟨rfl, hb2⟩))
  go_ret
  exact ⟨rfl, bt hb1 hb2⟩

set_option maxHeartbeats 400000 in
theorem over_5_4 (kind cls : Nat) (h1 : kind ≤ 255) (h2 : cls ≤ 255) (w : World) (hk : (kind : Int) % 11 = 5) (hc : (cls : Int) % 7 = 4) :
    Calls Try.prog 4 #[.int .u8 kind, .int .u8 cls] w fun e w' => e = .returned (.bool true) ∧ Below w.heap.size w w' := by
  have J : ∀ w : World, Calls Try.prog 7 #[.int .u8 5, .int .u8 4] w fun e w' => e = .returned (.agg #[.int .i64 3, .int .u32 2]) ∧ Below w.heap.size w w' := fun w => judge_any 5 4 w
  have HJ := Lib.hid J
  clear J
  go_enter Try.func4, Try.ntmps4
  go_wp2_with (first | ((with_reducible refine (HJ.out _).mono ?_); rintro e w1 ⟨rfl, hb1⟩) | ((with_reducible refine (awake_any _).mono ?_); rintro e w2 ⟨rfl, hb2⟩))
  go_ret
  exact ⟨rfl, bt hb1 hb2⟩

set_option maxHeartbeats 400000 in
theorem over_5_5 (kind cls : Nat) (h1 : kind ≤ 255) (h2 : cls ≤ 255) (w : World) (hk : (kind : Int) % 11 = 5) (hc : (cls : Int) % 7 = 5) :
    Calls Try.prog 4 #[.int .u8 kind, .int .u8 cls] w fun e w' => e = .returned (.bool true) ∧ Below w.heap.size w w' := by
  have J : ∀ w : World, Calls Try.prog 7 #[.int .u8 5, .int .u8 5] w fun e w' => e = .returned (.agg #[.int .i64 3, .int .u32 2]) ∧ Below w.heap.size w w' := fun w => judge_any 5 5 w
  have HJ := Lib.hid J
  clear J
  go_enter Try.func4, Try.ntmps4
  go_wp2_with (first | ((with_reducible refine (HJ.out _).mono ?_); rintro e w1 ⟨rfl, hb1⟩) | ((with_reducible refine (awake_any _).mono ?_); rintro e w2 ⟨rfl, hb2⟩))
  go_ret
  exact ⟨rfl, bt hb1 hb2⟩

set_option maxHeartbeats 400000 in
theorem over_5_6 (kind cls : Nat) (h1 : kind ≤ 255) (h2 : cls ≤ 255) (w : World) (hk : (kind : Int) % 11 = 5) (hc : (cls : Int) % 7 = 6) :
    Calls Try.prog 4 #[.int .u8 kind, .int .u8 cls] w fun e w' => e = .returned (.bool true) ∧ Below w.heap.size w w' := by
  have J : ∀ w : World, Calls Try.prog 7 #[.int .u8 5, .int .u8 6] w fun e w' => e = .returned (.agg #[.int .i64 3, .int .u32 2]) ∧ Below w.heap.size w w' := fun w => judge_any 5 6 w
  have HJ := Lib.hid J
  clear J
  go_enter Try.func4, Try.ntmps4
  go_wp2_with (first | ((with_reducible refine (HJ.out _).mono ?_); rintro e w1 ⟨rfl, hb1⟩) | ((with_reducible refine (awake_any _).mono ?_); rintro e w2 ⟨rfl, hb2⟩))
  go_ret
  exact ⟨rfl, bt hb1 hb2⟩

set_option maxHeartbeats 400000 in
theorem over_6_0 (kind cls : Nat) (h1 : kind ≤ 255) (h2 : cls ≤ 255) (w : World) (hk : (kind : Int) % 11 = 6) (hc : (cls : Int) % 7 = 0) :
    Calls Try.prog 4 #[.int .u8 kind, .int .u8 cls] w fun e w' => e = .returned (.bool true) ∧ Below w.heap.size w w' := by
  have J : ∀ w : World, Calls Try.prog 7 #[.int .u8 6, .int .u8 0] w fun e w' => e = .returned (.agg #[.int .i64 0, .int .u32 0]) ∧ Below w.heap.size w w' := fun w => judge_any 6 0 w
  have HJ := Lib.hid J
  clear J
  go_enter Try.func4, Try.ntmps4
  go_wp2_with (first | ((with_reducible refine (HJ.out _).mono ?_); rintro e w1 ⟨rfl, hb1⟩) | ((with_reducible refine (awake_any _).mono ?_); rintro e w2 ⟨rfl, hb2⟩))
  go_ret
  exact ⟨rfl, bt (bta hb1 _) hb2⟩

set_option maxHeartbeats 400000 in
theorem over_6_1 (kind cls : Nat) (h1 : kind ≤ 255) (h2 : cls ≤ 255) (w : World) (hk : (kind : Int) % 11 = 6) (hc : (cls : Int) % 7 = 1) :
    Calls Try.prog 4 #[.int .u8 kind, .int .u8 cls] w fun e w' => e = .returned (.bool true) ∧ Below w.heap.size w w' := by
  have J : ∀ w : World, Calls Try.prog 7 #[.int .u8 6, .int .u8 1] w fun e w' => e = .returned (.agg #[.int .i64 3, .int .u32 1]) ∧ Below w.heap.size w w' := fun w => judge_any 6 1 w
  have HJ := Lib.hid J
  clear J
  go_enter Try.func4, Try.ntmps4
  go_wp2_with (first | ((with_reducible refine (HJ.out _).mono ?_); rintro e w1 ⟨rfl, hb1⟩) | ((with_reducible refine (awake_any _).mono ?_); rintro e w2 ⟨rfl, hb2⟩))
  go_ret
  exact ⟨rfl, bt (bta hb1 _) hb2⟩

set_option maxHeartbeats 400000 in
theorem over_6_2 (kind cls : Nat) (h1 : kind ≤ 255) (h2 : cls ≤ 255) (w : World) (hk : (kind : Int) % 11 = 6) (hc : (cls : Int) % 7 = 2) :
    Calls Try.prog 4 #[.int .u8 kind, .int .u8 cls] w fun e w' => e = .returned (.bool true) ∧ Below w.heap.size w w' := by
  have J : ∀ w : World, Calls Try.prog 7 #[.int .u8 6, .int .u8 2] w fun e w' => e = .returned (.agg #[.int .i64 3, .int .u32 1]) ∧ Below w.heap.size w w' := fun w => judge_any 6 2 w
  have HJ := Lib.hid J
  clear J
  go_enter Try.func4, Try.ntmps4
  go_wp2_with (first | ((with_reducible refine (HJ.out _).mono ?_); rintro e w1 ⟨rfl, hb1⟩) | ((with_reducible refine (awake_any _).mono ?_); rintro e w2 ⟨rfl, hb2⟩))
  go_ret
  exact ⟨rfl, bt (bta hb1 _) hb2⟩

set_option maxHeartbeats 400000 in
theorem over_6_3 (kind cls : Nat) (h1 : kind ≤ 255) (h2 : cls ≤ 255) (w : World) (hk : (kind : Int) % 11 = 6) (hc : (cls : Int) % 7 = 3) :
    Calls Try.prog 4 #[.int .u8 kind, .int .u8 cls] w fun e w' => e = .returned (.bool true) ∧ Below w.heap.size w w' := by
  have J : ∀ w : World, Calls Try.prog 7 #[.int .u8 6, .int .u8 3] w fun e w' => e = .returned (.agg #[.int .i64 3, .int .u32 1]) ∧ Below w.heap.size w w' := fun w => judge_any 6 3 w
  have HJ := Lib.hid J
  clear J
  go_enter Try.func4, Try.ntmps4
  go_wp2_with (first | ((with_reducible refine (HJ.out _).mono ?_); rintro e w1 ⟨rfl, hb1⟩) | ((with_reducible refine (awake_any _).mono ?_); rintro e w2 ⟨rfl, hb2⟩))
  go_ret
  exact ⟨rfl, bt (bta hb1 _) hb2⟩

set_option maxHeartbeats 400000 in
theorem over_6_4 (kind cls : Nat) (h1 : kind ≤ 255) (h2 : cls ≤ 255) (w : World) (hk : (kind : Int) % 11 = 6) (hc : (cls : Int) % 7 = 4) :
    Calls Try.prog 4 #[.int .u8 kind, .int .u8 cls] w fun e w' => e = .returned (.bool true) ∧ Below w.heap.size w w' := by
  have J : ∀ w : World, Calls Try.prog 7 #[.int .u8 6, .int .u8 4] w fun e w' => e = .returned (.agg #[.int .i64 3, .int .u32 1]) ∧ Below w.heap.size w w' := fun w => judge_any 6 4 w
  have HJ := Lib.hid J
  clear J
  go_enter Try.func4, Try.ntmps4
  go_wp2_with (first | ((with_reducible refine (HJ.out _).mono ?_); rintro e w1 ⟨rfl, hb1⟩) | ((with_reducible refine (awake_any _).mono ?_); rintro e w2 ⟨rfl, hb2⟩))
  go_ret
  exact ⟨rfl, bt (bta hb1 _) hb2⟩

set_option maxHeartbeats 400000 in
theorem over_6_5 (kind cls : Nat) (h1 : kind ≤ 255) (h2 : cls ≤ 255) (w : World) (hk : (kind : Int) % 11 = 6) (hc : (cls : Int) % 7 = 5) :
    Calls Try.prog 4 #[.int .u8 kind, .int .u8 cls] w fun e w' => e = .returned (.bool true) ∧ Below w.heap.size w w' := by
  have J : ∀ w : World, Calls Try.prog 7 #[.int .u8 6, .int .u8 5] w fun e w' => e = .returned (.agg #[.int .i64 3, .int .u32 1]) ∧ Below w.heap.size w w' := fun w => judge_any 6 5 w
  have HJ := Lib.hid J
  clear J
  go_enter Try.func4, Try.ntmps4
  go_wp2_with (first | ((with_reducible refine (HJ.out _).mono ?_); rintro e w1 ⟨rfl, hb1⟩) | ((with_reducible refine (awake_any _).mono ?_); rintro e w2 ⟨rfl, hb2⟩))
  go_ret
  exact ⟨rfl, bt (bta hb1 _) hb2⟩

set_option maxHeartbeats 400000 in
theorem over_6_6 (kind cls : Nat) (h1 : kind ≤ 255) (h2 : cls ≤ 255) (w : World) (hk : (kind : Int) % 11 = 6) (hc : (cls : Int) % 7 = 6) :
    Calls Try.prog 4 #[.int .u8 kind, .int .u8 cls] w fun e w' => e = .returned (.bool true) ∧ Below w.heap.size w w' := by
  have J : ∀ w : World, Calls Try.prog 7 #[.int .u8 6, .int .u8 6] w fun e w' => e = .returned (.agg #[.int .i64 3, .int .u32 1]) ∧ Below w.heap.size w w' := fun w => judge_any 6 6 w
  have HJ := Lib.hid J
  clear J
  go_enter Try.func4, Try.ntmps4
  go_wp2_with (first | ((with_reducible refine (HJ.out _).mono ?_); rintro e w1 ⟨rfl, hb1⟩) | ((with_reducible refine (awake_any _).mono ?_); rintro e w2 ⟨rfl, hb2⟩))
  go_ret
  exact ⟨rfl, bt (bta hb1 _) hb2⟩

set_option maxHeartbeats 400000 in
theorem over_7_0 (kind cls : Nat) (h1 : kind ≤ 255) (h2 : cls ≤ 255) (w : World) (hk : (kind : Int) % 11 = 7) (hc : (cls : Int) % 7 = 0) :
    Calls Try.prog 4 #[.int .u8 kind, .int .u8 cls] w fun e w' => e = .returned (.bool true) ∧ Below w.heap.size w w' := by
  have J : ∀ w : World, Calls Try.prog 7 #[.int .u8 7, .int .u8 0] w fun e w' => e = .returned (.agg #[.int .i64 0, .int .u32 0]) ∧ Below w.heap.size w w' := fun w => judge_any 7 0 w
  have HJ := Lib.hid J
  clear J
  go_enter Try.func4, Try.ntmps4
  go_wp2_with (first | ((with_reducible refine (HJ.out _).mono ?_); rintro e w1 ⟨rfl, hb1⟩) | ((with_reducible refine (awake_any _).mono ?_); rintro e w2 ⟨rfl, hb2⟩))
  go_ret
  exact ⟨rfl, bt (bta hb1 _) hb2⟩

set_option maxHeartbeats 400000 in
theorem over_7_1 (kind cls : Nat) (h1 : kind ≤ 255) (h2 : cls ≤ 255) (w : World) (hk : (kind : Int) % 11 = 7) (hc : (cls : Int) % 7 = 1) :
    Calls Try.prog 4 #[.int .u8 kind, .int .u8 cls] w fun e w' => e = .returned (.bool true) ∧ Below w.heap.size w w' := by
  have J : ∀ w : World, Calls Try.prog 7 #[.int .u8 7, .int .u8 1] w fun e w' => e = .returned (.agg #[.int .i64 3, .int .u32 1]) ∧ Below w.heap.size w w' := fun w => judge_any 7 1 w
  have HJ := Lib.hid J
  clear J
  go_enter Try.func4, Try.ntmps4
  go_wp2_with (first | ((with_reducible refine (HJ.out _).mono ?_); rintro e w1 ⟨rfl, hb1⟩) | ((with_reducible refine (awake_any _).mono ?_); rintro e w2 ⟨rfl, hb2⟩))
  go_ret
  exact ⟨rfl, bt (bta hb1 _) hb2⟩

set_option maxHeartbeats 400000 in
theorem over_7_2 (kind cls : Nat) (h1 : kind ≤ 255) (h2 : cls ≤ 255) (w : World) (hk : (kind : Int) % 11 = 7) (hc : (cls : Int) % 7 = 2) :
    Calls Try.prog 4 #[.int .u8 kind, .int .u8 cls] w fun e w' => e = .returned (.bool true) ∧ Below w.heap.size w w' := by
  have J : ∀ w : World, Calls Try.prog 7 #[.int .u8 7, .int .u8 2] w fun e w' => e = .returned (.agg #[.int .i64 3, .int .u32 1]) ∧ Below w.heap.size w w' := fun w => judge_any 7 2 w
  have HJ := Lib.hid J
  clear J
  go_enter Try.func4, Try.ntmps4
  go_wp2_with (first | ((with_reducible refine (HJ.out _).mono ?_); rintro e w1 ⟨rfl, hb1⟩) | ((with_reducible refine (awake_any _).mono ?_); rintro e w2 ⟨rfl, hb2⟩))
  go_ret
  exact ⟨rfl, bt (bta hb1 _) hb2⟩

set_option maxHeartbeats 400000 in
theorem over_7_3 (kind cls : Nat) (h1 : kind ≤ 255) (h2 : cls ≤ 255) (w : World) (hk : (kind : Int) % 11 = 7) (hc : (cls : Int) % 7 = 3) :
    Calls Try.prog 4 #[.int .u8 kind, .int .u8 cls] w fun e w' => e = .returned (.bool true) ∧ Below w.heap.size w w' := by
  have J : ∀ w : World, Calls Try.prog 7 #[.int .u8 7, .int .u8 3] w fun e w' => e = .returned (.agg #[.int .i64 3, .int .u32 1]) ∧ Below w.heap.size w w' := fun w => judge_any 7 3 w
  have HJ := Lib.hid J
  clear J
  go_enter Try.func4, Try.ntmps4
  go_wp2_with (first | ((with_reducible refine (HJ.out _).mono ?_); rintro e w1 ⟨rfl, hb1⟩) | ((with_reducible refine (awake_any _).mono ?_); rintro e w2 ⟨rfl, hb2⟩))
  go_ret
  exact ⟨rfl, bt (bta hb1 _) hb2⟩

set_option maxHeartbeats 400000 in
theorem over_7_4 (kind cls : Nat) (h1 : kind ≤ 255) (h2 : cls ≤ 255) (w : World) (hk : (kind : Int) % 11 = 7) (hc : (cls : Int) % 7 = 4) :
    Calls Try.prog 4 #[.int .u8 kind, .int .u8 cls] w fun e w' => e = .returned (.bool true) ∧ Below w.heap.size w w' := by
  have J : ∀ w : World, Calls Try.prog 7 #[.int .u8 7, .int .u8 4] w fun e w' => e = .returned (.agg #[.int .i64 3, .int .u32 1]) ∧ Below w.heap.size w w' := fun w => judge_any 7 4 w
  have HJ := Lib.hid J
  clear J
  go_enter Try.func4, Try.ntmps4
  go_wp2_with (first | ((with_reducible refine (HJ.out _).mono ?_); rintro e w1 ⟨rfl, hb1⟩) | ((with_reducible refine (awake_any _).mono ?_); rintro e w2 ⟨rfl, hb2⟩))
  go_ret
  exact ⟨rfl, bt (bta hb1 _) hb2⟩

set_option maxHeartbeats 400000 in
theorem over_7_5 (kind cls : Nat) (h1 : kind ≤ 255) (h2 : cls ≤ 255) (w : World) (hk : (kind : Int) % 11 = 7) (hc : (cls : Int) % 7 = 5) :
    Calls Try.prog 4 #[.int .u8 kind, .int .u8 cls] w fun e w' => e = .returned (.bool true) ∧ Below w.heap.size w w' := by
  have J : ∀ w : World, Calls Try.prog 7 #[.int .u8 7, .int .u8 5] w fun e w' => e = .returned (.agg #[.int .i64 3, .int .u32 1]) ∧ Below w.heap.size w w' := fun w => judge_any 7 5 w
  have HJ := Lib.hid J
  clear J
  go_enter Try.func4, Try.ntmps4
  go_wp2_with (first | ((with_reducible refine (HJ.out _).mono ?_); rintro e w1 ⟨rfl, hb1⟩) | ((with_reducible refine (awake_any _).mono ?_); rintro e w2 ⟨rfl, hb2⟩))
  go_ret
  exact ⟨rfl, bt (bta hb1 _) hb2⟩

set_option maxHeartbeats 400000 in
theorem over_7_6 (kind cls : Nat) (h1 : kind ≤ 255) (h2 : cls ≤ 255) (w : World) (hk : (kind : Int) % 11 = 7) (hc : (cls : Int) % 7 = 6) :
    Calls Try.prog 4 #[.int .u8 kind, .int .u8 cls] w fun e w' => e = .returned (.bool true) ∧ Below w.heap.size w w' := by
  have J : ∀ w : World, Calls Try.prog 7 #[.int .u8 7, .int .u8 6] w fun e w' => e = .returned (.agg #[.int .i64 3, .int .u32 1]) ∧ Below w.heap.size w w' := fun w => judge_any 7 6 w
  have HJ := Lib.hid J
  clear J
  go_enter Try.func4, Try.ntmps4
  go_wp2_with (first | ((with_reducible refine (HJ.out _).mono ?_); rintro e w1 ⟨rfl, hb1⟩) | ((with_reducible refine (awake_any _).mono ?_); rintro e w2 ⟨rfl, hb2⟩))
  go_ret
  exact ⟨rfl, bt (bta hb1 _) hb2⟩

set_option maxHeartbeats 400000 in
theorem over_8_0 (kind cls : Nat) (h1 : kind ≤ 255) (h2 : cls ≤ 255) (w : World) (hk : (kind : Int) % 11 = 8) (hc : (cls : Int) % 7 = 0) :
    Calls Try.prog 4 #[.int .u8 kind, .int .u8 cls] w fun e w' => e = .returned (.bool true) ∧ Below w.heap.size w w' := by
  have J : ∀ w : World, Calls Try.prog 7 #[.int .u8 8, .int .u8 0] w fun e w' => e = .returned (.agg #[.int .i64 0, .int .u32 0]) ∧ Below w.heap.size w w' := fun w => judge_any 8 0 w
  have HJ := Lib.hid J
  clear J
  go_enter Try.func4, Try.ntmps4
  go_wp2_with (first | ((with_reducible refine (HJ.out _).mono ?_); rintro e w1 ⟨rfl, hb1⟩) | ((with_reducible refine (awake_any _).mono ?_); rintro e w2 ⟨rfl, hb2⟩))
  go_ret
  exact ⟨rfl, bt (bta hb1 _) hb2⟩

set_option maxHeartbeats 400000 in
theorem over_8_1 (kind cls : Nat) (h1 : kind ≤ 255) (h2 : cls ≤ 255) (w : World) (hk : (kind : Int) % 11 = 8) (hc : (cls : Int) % 7 = 1) :
    Calls Try.prog 4 #[.int .u8 kind, .int .u8 cls] w fun e w' => e = .returned (.bool true) ∧ Below w.heap.size w w' := by
  have J : ∀ w : World, Calls Try.prog 7 #[.int .u8 8, .int .u8 1] w fun e w' => e = .returned (.agg #[.int .i64 3, .int .u32 1]) ∧ Below w.heap.size w w' := fun w => judge_any 8 1 w
  have HJ := Lib.hid J
  clear J
  go_enter Try.func4, Try.ntmps4
  go_wp2_with (first | ((with_reducible refine (HJ.out _).mono ?_); rintro e w1 ⟨rfl, hb1⟩) | ((with_reducible refine (awake_any _).mono ?_); rintro e w2 ⟨rfl, hb2⟩))
  go_ret
  exact ⟨rfl, bt (bta hb1 _) hb2⟩

set_option maxHeartbeats 400000 in
theorem over_8_2 (kind cls : Nat) (h1 : kind ≤ 255) (h2 : cls ≤ 255) (w : World) (hk : (kind : Int) % 11 = 8) (hc : (cls : Int) % 7 = 2) :
    Calls Try.prog 4 #[.int .u8 kind, .int .u8 cls] w fun e w' => e = .returned (.bool true) ∧ Below w.heap.size w w' := by
  have J : ∀ w : World, Calls Try.prog 7 #[.int .u8 8, .int .u8 2] w fun e w' => e = .returned (.agg #[.int .i64 0, .int .u32 0]) ∧ Below w.heap.size w w' := fun w => judge_any 8 2 w
  have HJ := Lib.hid J
  clear J
  go_enter Try.func4, Try.ntmps4
  go_wp2_with (first | ((with_reducible refine (HJ.out _).mono ?_); rintro e w1 ⟨rfl, hb1⟩) | ((with_reducible refine (awake_any _).mono ?_); rintro e w2 ⟨rfl, hb2⟩))
  go_ret
  exact ⟨rfl, bt (bta hb1 _) hb2⟩

set_option maxHeartbeats 400000 in
theorem over_8_3 (kind cls : Nat) (h1 : kind ≤ 255) (h2 : cls ≤ 255) (w : World) (hk : (kind : Int) % 11 = 8) (hc : (cls : Int) % 7 = 3) :
    Calls Try.prog 4 #[.int .u8 kind, .int .u8 cls] w fun e w' => e = .returned (.bool true) ∧ Below w.heap.size w w' := by
  have J : ∀ w : World, Calls Try.prog 7 #[.int .u8 8, .int .u8 3] w fun e w' => e = .returned (.agg #[.int .i64 0, .int .u32 0]) ∧ Below w.heap.size w w' := fun w => judge_any 8 3 w
  have HJ := Lib.hid J
  clear J
  go_enter Try.func4, Try.ntmps4
  go_wp2_with (first | ((with_reducible refine (HJ.out _).mono ?_); rintro e w1 ⟨rfl, hb1⟩) | ((with_reducible refine (awake_any _).mono ?_); rintro e w2 ⟨rfl, hb2⟩))
  go_ret
  exact ⟨rfl, bt (bta hb1 _) hb2⟩

set_option maxHeartbeats 400000 in
theorem over_8_4 (kind cls : Nat) (h1 : kind ≤ 255) (h2 : cls ≤ 255) (w : World) (hk : (kind : Int) % 11 = 8) (hc : (cls : Int) % 7 = 4) :
    Calls Try.prog 4 #[.int .u8 kind, .int .u8 cls] w fun e w' => e = .returned (.bool true) ∧ Below w.heap.size w w' := by
  have J : ∀ w : World, Calls Try.prog 7 #[.int .u8 8, .int .u8 4] w fun e w' => e = .returned (.agg #[.int .i64 1, .int .u32 0]) ∧ Below w.heap.size w w' := fun w => judge_any 8 4 w
  have HJ := Lib.hid J
  clear J
  go_enter Try.func4, Try.ntmps4
  go_wp2_with (first | ((with_reducible refine (HJ.out _).mono ?_); rintro e w1 ⟨rfl, hb1⟩) | ((with_reducible refine (awake_any _).mono ?_); rintro e w2 ⟨rfl, hb2⟩))
  go_ret
  exact ⟨rfl, bt (bta hb1 _) hb2⟩

set_option maxHeartbeats 400000 in
theorem over_8_5 (kind cls : Nat) (h1 : kind ≤ 255) (h2 : cls ≤ 255) (w : World) (hk : (kind : Int) % 11 = 8) (hc : (cls : Int) % 7 = 5) :
    Calls Try.prog 4 #[.int .u8 kind, .int .u8 cls] w fun e w' => e = .returned (.bool true) ∧ Below w.heap.size w w' := by
  have J : ∀ w : World, Calls Try.prog 7 #[.int .u8 8, .int .u8 5] w fun e w' => e = .returned (.agg #[.int .i64 1, .int .u32 0]) ∧ Below w.heap.size w w' := fun w => judge_any 8 5 w
  have HJ := Lib.hid J
  clear J
  go_enter Try.func4, Try.ntmps4
  go_wp2_with (first | ((with_reducible refine (HJ.out _).mono ?_); rintro e w1 ⟨rfl, hb1⟩) | ((with_reducible refine (awake_any _).mono ?_); rintro e w2 ⟨rfl, hb2⟩))
  go_ret
  exact ⟨rfl, bt (bta hb1 _) hb2⟩

set_option maxHeartbeats 400000 in
theorem over_8_6 (kind cls : Nat) (h1 : kind ≤ 255) (h2 : cls ≤ 255) (w : World) (hk : (kind : Int) % 11 = 8) (hc : (cls : Int) % 7 = 6) :
    Calls Try.prog 4 #[.int .u8 kind, .int .u8 cls] w fun e w' => e = .returned (.bool true) ∧ Below w.heap.size w w' := by
  have J : ∀ w : World, Calls Try.prog 7 #[.int .u8 8, .int .u8 6] w fun e w' => e = .returned (.agg #[.int .i64 3, .int .u32 1]) ∧ Below w.heap.size w w' := fun w => judge_any 8 6 w
  have HJ := Lib.hid J
  clear J
  go_enter Try.func4, Try.ntmps4
  go_wp2_with (first | ((with_reducible refine (HJ.out _).mono ?_); rintro e w1 ⟨rfl, hb1⟩) | ((with_reducible refine (awake_any _).mono ?_); rintro e w2 ⟨rfl, hb2⟩))
  go_ret
  exact ⟨rfl, bt (bta hb1 _) hb2⟩

set_option maxHeartbeats 400000 in
theorem over_9_0 (kind cls : Nat) (h1 : kind ≤ 255) (h2 : cls ≤ 255) (w : World) (hk : (kind : Int) % 11 = 9) (hc : (cls : Int) % 7 = 0) :
    Calls Try.prog 4 #[.int .u8 kind, .int .u8 cls] w fun e w' => e = .returned (.bool true) ∧ Below w.heap.size w w' := by
  have J : ∀ w : World, Calls Try.prog 7 #[.int .u8 9, .int .u8 0] w fun e w' => e = .returned (.agg #[.int .i64 0, .int .u32 0]) ∧ Below w.heap.size w w' := fun w => judge_any 9 0 w
  have HJ := Lib.hid J
  clear J
  go_enter Try.func4, Try.ntmps4
  go_wp2_with (first | ((with_reducible refine (HJ.out _).mono ?_); rintro e w1 ⟨rfl, hb1⟩) | ((with_reducible refine (awake_any _).mono ?_); rintro e w2 ⟨rfl, hb2⟩))
  go_ret
  exact ⟨rfl, bt (bta hb1 _) hb2⟩

set_option maxHeartbeats 400000 in
theorem over_9_1 (kind cls : Nat) (h1 : kind ≤ 255) (h2 : cls ≤ 255) (w : World) (hk : (kind : Int) % 11 = 9) (hc : (cls : Int) % 7 = 1) :
    Calls Try.prog 4 #[.int .u8 kind, .int .u8 cls] w fun e w' => e = .returned (.bool true) ∧ Below w.heap.size w w' := by
  have J : ∀ w : World, Calls Try.prog 7 #[.int .u8 9, .int .u8 1] w fun e w' => e = .returned (.agg #[.int .i64 3, .int .u32 1]) ∧ Below w.heap.size w w' := fun w => judge_any 9 1 w
  have HJ := Lib.hid J
  clear J
  go_enter Try.func4, Try.ntmps4
  go_wp2_with (first | ((with_reducible refine (HJ.out _).mono ?_); rintro e w1 ⟨rfl, hb1⟩) | ((with_reducible refine (awake_any _).mono ?_); rintro e w2 ⟨rfl, hb2⟩))
  go_ret
  exact ⟨rfl, bt (bta hb1 _) hb2⟩

set_option maxHeartbeats 400000 in
theorem over_9_2 (kind cls : Nat) (h1 : kind ≤ 255) (h2 : cls ≤ 255) (w : World) (hk : (kind : Int) % 11 = 9) (hc : (cls : Int) % 7 = 2) :
    Calls Try.prog 4 #[.int .u8 kind, .int .u8 cls] w fun e w' => e = .returned (.bool true) ∧ Below w.heap.size w w' := by
  have J : ∀ w : World, Calls Try.prog 7 #[.int .u8 9, .int .u8 2] w fun e w' => e = .returned (.agg #[.int .i64 0, .int .u32 0]) ∧ Below w.heap.size w w' := fun w => judge_any 9 2 w
  have HJ := Lib.hid J
  clear J
  go_enter Try.func4, Try.ntmps4
  go_wp2_with (first | ((with_reducible refine (HJ.out _).mono ?_); rintro e w1 ⟨rfl, hb1⟩) | ((with_reducible refine (awake_any _).mono ?_); rintro e w2 ⟨rfl, hb2⟩))
  go_ret
  exact ⟨rfl, bt (bta hb1 _) hb2⟩

set_option maxHeartbeats 400000 in
theorem over_9_3 (kind cls : Nat) (h1 : kind ≤ 255) (h2 : cls ≤ 255) (w : World) (hk : (kind : Int) % 11 = 9) (hc : (cls : Int) % 7 = 3) :
    Calls Try.prog 4 #[.int .u8 kind, .int .u8 cls] w fun e w' => e = .returned (.bool true) ∧ Below w.heap.size w w' := by
  have J : ∀ w : World, Calls Try.prog 7 #[.int .u8 9, .int .u8 3] w fun e w' => e = .returned (.agg #[.int .i64 0, .int .u32 0]) ∧ Below w.heap.size w w' := fun w => judge_any 9 3 w
  have HJ := Lib.hid J
  clear J
  go_enter Try.func4, Try.ntmps4
  go_wp2_with (first | ((with_reducible refine (HJ.out _).mono ?_); rintro e w1 ⟨rfl, hb1⟩) | ((with_reducible refine (awake_any _).mono ?_); rintro e w2 ⟨rfl, hb2⟩))
  go_ret
  exact ⟨rfl, bt (bta hb1 _) hb2⟩

set_option maxHeartbeats 400000 in
theorem over_9_4 (kind cls : Nat) (h1 : kind ≤ 255) (h2 : cls ≤ 255) (w : World) (hk : (kind : Int) % 11 = 9) (hc : (cls : Int) % 7 = 4) :
    Calls Try.prog 4 #[.int .u8 kind, .int .u8 cls] w fun e w' => e = .returned (.bool true) ∧ Below w.heap.size w w' := by
  have J : ∀ w : World, Calls Try.prog 7 #[.int .u8 9, .int .u8 4] w fun e w' => e = .returned (.agg #[.int .i64 1, .int .u32 0]) ∧ Below w.heap.size w w' := fun w => judge_any 9 4 w
  have HJ := Lib.hid J
  clear J
  go_enter Try.func4, Try.ntmps4
  go_wp2_with (first | ((with_reducible refine (HJ.out _).mono ?_); rintro e w1 ⟨rfl, hb1⟩) | ((with_reducible refine (awake_any _).mono ?_); rintro e w2 ⟨rfl, hb2⟩))
  go_ret
  exact ⟨rfl, bt (bta hb1 _) hb2⟩

set_option maxHeartbeats 400000 in
theorem over_9_5 (kind cls : Nat) (h1 : kind ≤ 255) (h2 : cls ≤ 255) (w : World) (hk : (kind : Int) % 11 = 9) (hc : (cls : Int) % 7 = 5) :
    Calls Try.prog 4 #[.int .u8 kind, .int .u8 cls] w fun e w' => e = .returned (.bool true) ∧ Below w.heap.size w w' := by
  have J : ∀ w : World, Calls Try.prog 7 #[.int .u8 9, .int .u8 5] w fun e w' => e = .returned (.agg #[.int .i64 1, .int .u32 0]) ∧ Below w.heap.size w w' := fun w => judge_any 9 5 w
  have HJ := Lib.hid J
  clear J
  go_enter Try.func4, Try.ntmps4
  go_wp2_with (first | ((with_reducible refine (HJ.out _).mono ?_); rintro e w1 ⟨rfl, hb1⟩) | ((with_reducible refine (awake_any _).mono ?_); rintro e w2 ⟨rfl, hb2⟩))
  go_ret
  exact ⟨rfl, bt (bta hb1 _) hb2⟩

set_option maxHeartbeats 400000 in
theorem over_9_6 (kind cls : Nat) (h1 : kind ≤ 255) (h2 : cls ≤ 255) (w : World) (hk : (kind : Int) % 11 = 9) (hc : (cls : Int) % 7 = 6) :
    Calls Try.prog 4 #[.int .u8 kind, .int .u8 cls] w fun e w' => e = .returned (.bool true) ∧ Below w.heap.size w w' := by
  have J : ∀ w : World, Calls Try.prog 7 #[.int .u8 9, .int .u8 6] w fun e w' => e = .returned (.agg #[.int .i64 3, .int .u32 1]) ∧ Below w.heap.size w w' := fun w => judge_any 9 6 w
  have HJ := Lib.hid J
  clear J
  go_enter Try.func4, Try.ntmps4
  go_wp2_with (first | ((with_reducible refine (HJ.out _).mono ?_); rintro e w1 ⟨rfl, hb1⟩) | ((with_reducible refine (awake_any _).mono ?_); rintro e w2 ⟨rfl, hb2⟩))
  go_ret
  exact ⟨rfl, bt (bta hb1 _) hb2⟩

set_option maxHeartbeats 400000 in
theorem over_10_0 (kind cls : Nat) (h1 : kind ≤ 255) (h2 : cls ≤ 255) (w : World) (hk : (kind : Int) % 11 = 10) (hc : (cls : Int) % 7 = 0) :
    Calls Try.prog 4 #[.int .u8 kind, .int .u8 cls] w fun e w' => e = .returned (.bool true) ∧ Below w.heap.size w w' := by
  have J : ∀ w : World, Calls Try.prog 7 #[.int .u8 10, .int .u8 0] w fun e w' => e = .returned (.agg #[.int .i64 0, .int .u32 0]) ∧ Below w.heap.size w w' := fun w => judge_any 10 0 w
  have HJ := Lib.hid J
  clear J
  go_enter Try.func4, Try.ntmps4
  go_wp2_with (first | ((with_reducible refine (HJ.out _).mono ?_); rintro e w1 ⟨rfl, hb1⟩) | ((with_reducible refine (awake_any _).mono ?_); rintro e w2 ⟨rfl, hb2⟩))
  go_ret
  exact ⟨rfl, bt (bta hb1 _) hb2⟩

set_option maxHeartbeats 400000 in
theorem over_10_1 (kind cls : Nat) (h1 : kind ≤ 255) (h2 : cls ≤ 255) (w : World) (hk : (kind : Int) % 11 = 10) (hc : (cls : Int) % 7 = 1) :
    Calls Try.prog 4 #[.int .u8 kind, .int .u8 cls] w fun e w' => e = .returned (.bool true) ∧ Below w.heap.size w w' := by
  have J : ∀ w : World, Calls Try.prog 7 #[.int .u8 10, .int .u8 1] w fun e w' => e = .returned (.agg #[.int .i64 3, .int .u32 1]) ∧ Below w.heap.size w w' := fun w => judge_any 10 1 w
  have HJ := Lib.hid J
  clear J
  go_enter Try.func4, Try.ntmps4
  go_wp2_with (first | ((with_reducible refine (HJ.out _).mono ?_); rintro e w1 ⟨rfl, hb1⟩) | ((with_reducible refine (awake_any _).mono ?_); rintro e w2 ⟨rfl, hb2⟩))
  go_ret
  exact ⟨rfl, bt (bta hb1 _) hb2⟩

set_option maxHeartbeats 400000 in
theorem over_10_2 (kind cls : Nat) (h1 : kind ≤ 255) (h2 : cls ≤ 255) (w : World) (hk : (kind : Int) % 11 = 10) (hc : (cls : Int) % 7 = 2) :
    Calls Try.prog 4 #[.int .u8 kind, .int .u8 cls] w fun e w' => e = .returned (.bool true) ∧ Below w.heap.size w w' := by
  have J : ∀ w : World, Calls Try.prog 7 #[.int .u8 10, .int .u8 2] w fun e w' => e = .returned (.agg #[.int .i64 3, .int .u32 1]) ∧ Below w.heap.size w w' := fun w => judge_any 10 2 w
  have HJ := Lib.hid J
  clear J
  go_enter Try.func4, Try.ntmps4
  go_wp2_with (first | ((with_reducible refine (HJ.out _).mono ?_); rintro e w1 ⟨rfl, hb1⟩) | ((with_reducible refine (awake_any _).mono ?_); rintro e w2 ⟨rfl, hb2⟩))
  go_ret
  exact ⟨rfl, bt (bta hb1 _) hb2⟩

set_option maxHeartbeats 400000 in
theorem over_10_3 (kind cls : Nat) (h1 : kind ≤ 255) (h2 : cls ≤ 255) (w : World) (hk : (kind : Int) % 11 = 10) (hc : (cls : Int) % 7 = 3) :
    Calls Try.prog 4 #[.int .u8 kind, .int .u8 cls] w fun e w' => e = .returned (.bool true) ∧ Below w.heap.size w w' := by
  have J : ∀ w : World, Calls Try.prog 7 #[.int .u8 10, .int .u8 3] w fun e w' => e = .returned (.agg #[.int .i64 3, .int .u32 1]) ∧ Below w.heap.size w w' := fun w => judge_any 10 3 w
  have HJ := Lib.hid J
  clear J
  go_enter Try.func4, Try.ntmps4
  go_wp2_with (first | ((with_reducible refine (HJ.out _).mono ?_); rintro e w1 ⟨rfl, hb1⟩) | ((with_reducible refine (awake_any _).mono ?_); rintro e w2 ⟨rfl, hb2⟩))
  go_ret
  exact ⟨rfl, bt (bta hb1 _) hb2⟩

set_option maxHeartbeats 400000 in
theorem over_10_4 (kind cls : Nat) (h1 : kind ≤ 255) (h2 : cls ≤ 255) (w : World) (hk : (kind : Int) % 11 = 10) (hc : (cls : Int) % 7 = 4) :
    Calls Try.prog 4 #[.int .u8 kind, .int .u8 cls] w fun e w' => e = .returned (.bool true) ∧ Below w.heap.size w w' := by
  have J : ∀ w : World, Calls Try.prog 7 #[.int .u8 10, .int .u8 4] w fun e w' => e = .returned (.agg #[.int .i64 3, .int .u32 1]) ∧ Below w.heap.size w w' := fun w => judge_any 10 4 w
  have HJ := Lib.hid J
  clear J
  go_enter Try.func4, Try.ntmps4
  go_wp2_with (first | ((with_reducible refine (HJ.out _).mono ?_); rintro e w1 ⟨rfl, hb1⟩) | ((with_reducible refine (awake_any _).mono ?_); rintro e w2 ⟨rfl, hb2⟩))
  go_ret
  exact ⟨rfl, bt (bta hb1 _) hb2⟩

set_option maxHeartbeats 400000 in
theorem over_10_5 (kind cls : Nat) (h1 : kind ≤ 255) (h2 : cls ≤ 255) (w : World) (hk : (kind : Int) % 11 = 10) (hc : (cls : Int) % 7 = 5) :
    Calls Try.prog 4 #[.int .u8 kind, .int .u8 cls] w fun e w' => e = .returned (.bool true) ∧ Below w.heap.size w w' := by
  have J : ∀ w : World, Calls Try.prog 7 #[.int .u8 10, .int .u8 5] w fun e w' => e = .returned (.agg #[.int .i64 3, .int .u32 1]) ∧ Below w.heap.size w w' := fun w => judge_any 10 5 w
  have HJ := Lib.hid J
  clear J
  go_enter Try.func4, Try.ntmps4
  go_wp2_with (first | ((with_reducible refine (HJ.out _).mono ?_); rintro e w1 ⟨rfl, hb1⟩) | ((with_reducible refine (awake_any _).mono ?_); rintro e w2 ⟨rfl, hb2⟩))
  go_ret
  exact ⟨rfl, bt (bta hb1 _) hb2⟩

set_option maxHeartbeats 400000 in
theorem over_10_6 (kind cls : Nat) (h1 : kind ≤ 255) (h2 : cls ≤ 255) (w : World) (hk : (kind : Int) % 11 = 10) (hc : (cls : Int) % 7 = 6) :
    Calls Try.prog 4 #[.int .u8 kind, .int .u8 cls] w fun e w' => e = .returned (.bool true) ∧ Below w.heap.size w w' := by
  have J : ∀ w : World, Calls Try.prog 7 #[.int .u8 10, .int .u8 6] w fun e w' => e = .returned (.agg #[.int .i64 3, .int .u32 1]) ∧ Below w.heap.size w w' := fun w => judge_any 10 6 w
  have HJ := Lib.hid J
  clear J
  go_enter Try.func4, Try.ntmps4
  go_wp2_with (first | ((with_reducible refine (HJ.out _).mono ?_); rintro e w1 ⟨rfl, hb1⟩) | ((with_reducible refine (awake_any _).mono ?_); rintro e w2 ⟨rfl, hb2⟩))
  go_ret
  exact ⟨rfl, bt (bta hb1 _) hb2⟩
end Go.Proofs.Ytppmjbjgcakieaa
