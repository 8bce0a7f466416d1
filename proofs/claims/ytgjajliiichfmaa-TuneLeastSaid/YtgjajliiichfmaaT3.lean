/- The contracts of Check and Enough of the package tune; each leaves all memory that stood before as it was. -/
import Derived.Test.YtgjajliiichfmaaT2
namespace Go.Proofs.Ytgjajliiichfmaa
open Go.RowKit
attribute [local go_sem] cell_over frozen_over lt_over le_over ne_over over_ne cell_set_same softAt softUpon

/-- Two rows by value are the same. -/
theorem rows_eq (d : Nat) (a0 a1 a2 a3 b0 b1 b2 b3 : Int) (w : World) : (Op.equalIn (d + 2) 42 (.agg #[.int .i64 a0, .int .i64 a1, .int .i64 a2, .int .i64 a3]) (.agg #[.int .i64 b0, .int .i64 b1, .int .i64 b2, .int .i64 b3])).run Try.prog w = .ok (decide (a0 = b0 ∧ a1 = b1 ∧ a2 = b2 ∧ a3 = b3)) w := by
  rw [Op.equalIn]
  simp [run_underlying Try.underlying42, go_sem]
  simp only [show List.range' 0 4 = [0, 1, 2, 3] from rfl, List.forIn_cons, List.forIn_nil]
  simp [run_underlying Try.underlying3, go_sem]
  by_cases h0 : a0 = b0 <;> by_cases h1 : a1 = b1 <;> by_cases h2 : a2 = b2 <;> by_cases h3 : a3 = b3 <;> simp [h0, h1, h2, h3]
attribute [local go_sem] rows_eq

theorem bent_yes {a b c d : Int} (h : okT a b c d) (w : World) : Calls Try.prog 13 #[.agg #[.int .i64 a, .int .i64 b, .int .i64 c, .int .i64 d]] w fun e w' => e = .returned (.agg #[.int .i64 a, .int .i64 b, .int .i64 c, .int .i64 d]) ∧ Below w.heap.size w w' := by
  have := bent_any a b c d w
  obtain ⟨h1, h2, h3, h4⟩ := (okT_row a b c d).1 h
  rwa [← h1, ← h2, ← h3, ← h4] at this

theorem check_yes {a b c d : Int} (h : okT a b c d) (w : World) : Calls Try.prog 5 #[.agg #[.int .i64 a, .int .i64 b, .int .i64 c, .int .i64 d]] w fun e w' => e = .returned (.int .i64 0) ∧ Below w.heap.size w w' := by
  have HB := Lib.hid (bent_yes h)
  clear h
  go_enter Try.func5, Try.ntmps5
  go_wp2_with (first
    | ((with_reducible refine (row_any _ _ _ _ _).mono ?_); rintro e w1 ⟨rfl, hb⟩;
        have B1 := bt (bta (Below.refl _ _) _) hb; clear hb))
  have h3 := blk_new (w := w1) (o := row42 a b c d) rfl
  have B2 := bta B1 (row42 a b c d)
  unfold row42 at *
  obtain ⟨a0, a1, a2, a3, a4, a5, a6, a7, a8⟩ := cells4 h3
  generalize w1.heap.size = p3 at *
  generalize w1.alloc (.cells #[.int .i64 a, .int .i64 b, .int .i64 c, .int .i64 d] 42) = w2 at *
  refine wp_soft0 4 (by kernel_rfl) (by kernel_rfl) (tail_end (by kernel_rfl)) ?_
  simp only [List.take_succ_cons, List.take_zero]
  repeat (refine softLex_step (by rfl) (by rfl) (fun K hK => ?_); go_simp; first | (refine hK _ ?_; clear hK K) | (apply Exists.intro; refine ⟨fun x => ?_, hK _ ?_⟩; (first | (with_reducible exact HB.out _)); clear hK K))
  refine softLex_nil ?_
  intro w5 hb5
  replace B2 := bt B2 hb5
  clear hb5 a0 a1 a2 a3 a4 a5 a6 a7 a8
  go_wp2
  go_returns
  exact ⟨rfl, B2⟩

theorem check_no {a b c d : Int} (h : ¬ okT a b c d) (w : World) : Calls Try.prog 5 #[.agg #[.int .i64 a, .int .i64 b, .int .i64 c, .int .i64 d]] w fun e w' => e = .returned (.int .i64 8) ∧ Below w.heap.size w w' := by
  rw [okT_row] at h
  have HB := Lib.hid (bent_any a b c d)
  generalize cl 0 8 a = a' at *
  generalize cl 1 4096 b = b' at *
  generalize cl 1 1048576 c = c' at *
  generalize cl 1 32 d = d' at *
  have H := Lib.hid h
  clear h
  go_enter Try.func5, Try.ntmps5
  go_wp2_with (first
    | ((with_reducible refine (row_any _ _ _ _ _).mono ?_); rintro e w1 ⟨rfl, hb⟩;
        have B1 := bt (bta (Below.refl _ _) _) hb; clear hb))
  have h3 := blk_new (w := w1) (o := row42 a b c d) rfl
  have B2 := bta B1 (row42 a b c d)
  unfold row42 at *
  obtain ⟨a0, a1, a2, a3, a4, a5, a6, a7, a8⟩ := cells4 h3
  generalize w1.heap.size = p3 at *
  generalize w1.alloc (.cells #[.int .i64 a, .int .i64 b, .int .i64 c, .int .i64 d] 42) = w2 at *
  refine wp_soft0 4 (by kernel_rfl) (by kernel_rfl) (tail_end (by kernel_rfl)) ?_
  simp only [List.take_succ_cons, List.take_zero]
  repeat (refine softLex_step (by rfl) (by rfl) (fun K hK => ?_); go_simp; first | (refine hK _ ?_; clear hK K) | (apply Exists.intro; refine ⟨fun x => ?_, hK _ ?_⟩; (first | (with_reducible exact HB.out _)); clear hK K))
  refine softLex_nil ?_
  intro w5 hb5
  replace B2 := bt B2 hb5
  clear hb5 a0 a1 a2 a3 a4 a5 a6 a7 a8
  have hv : (!decide (a = a') || (!decide (b = b') || (!decide (c = c') || !decide (d = d')))) = true := by
    have := H.out
    by_cases h1 : a = a' <;> by_cases h2 : b = b' <;> by_cases h3 : c = c' <;> by_cases h4 : d = d' <;> simp_all
  rw [hv]
  go_wp2
  go_returns
  exact ⟨rfl, B2⟩

def chkV (a b c d : Int) : Int := if okT a b c d then 0 else 8
theorem check_any (a b c d : Int) (w : World) : Calls Try.prog 5 #[.agg #[.int .i64 a, .int .i64 b, .int .i64 c, .int .i64 d]] w fun e w' => e = .returned (.int .i64 (chkV a b c d)) ∧ Below w.heap.size w w' := by
  unfold chkV
  by_cases h : okT a b c d
  · rw [if_pos h]; exact check_yes h w
  · rw [if_neg h]; exact check_no h w

/-- Room for all streams. -/
def roomV (a b c : Int) : Bool := decide (b * (if 1 < 2 * a then 2 * a else 1) ≤ c)
def enV (a b c d : Int) : Bool := decide (okT a b c d) && roomV a b c

theorem enough_any (a b c d : Int) (w : World) : Calls Try.prog 11 #[.agg #[.int .i64 a, .int .i64 b, .int .i64 c, .int .i64 d]] w fun e w' => e = .returned (.bool (enV a b c d)) ∧ Below w.heap.size w w' := by
  unfold enV
  by_cases h : okT a b c d
  · have HC := Lib.hid (check_yes h)
    have hok : decide (okT a b c d) = true := decide_eq_true h
    rw [hok, Bool.true_and]
    obtain ⟨⟨h1, h2⟩, ⟨h3, h4⟩, ⟨h5, h6⟩, h7, h8⟩ := h
    have m0 : 0 ≤ b * (2 * a) := Int.mul_nonneg (by omega) (by omega)
    have m1 : b * (2 * a) ≤ 4096 * 16 := Int.mul_le_mul h4 (by omega) (by omega) (by omega)
    have m2 : IntKind.i64.wrap (b * (2 * a)) = b * (2 * a) := IntWalk.i64_in _ (by omega)
    have m3 : IntKind.i64.wrap b = b := IntWalk.i64_in _ (by omega)
    have m4 : wrap64 (b * (2 * a)) = b * (2 * a) := by unfold wrap64; omega
    have m5 : wrap64 b = b := by unfold wrap64; omega
    have HM4 := Lib.hid m4
    have HM5 := Lib.hid m5
    unfold roomV
    clear hok m4 m5
    go_enter Try.func11, Try.ntmps11
    go_wp2_with (first
      | ((with_reducible refine (HC.out _).mono ?_); rintro e w1 ⟨rfl, hb⟩;
          have h1 := blk_grow hb (blk_new rfl); have B1 := bt (bta (Below.refl _ _) _) hb; clear hb; generalize hp1 : w.heap.size = p1 at h1 ⊢; obtain ⟨a0, a1, a2, a3, a4, a5, a6, a7, a8⟩ := cells4 h1))
    all_goals subst hp1
    all_goals go_returns
    all_goals refine ⟨?_, B1⟩
    · show Ending.returned (.bool (decide (wrap64 (b * (2 * a)) ≤ c))) = _
      rw [HM4.out]
    · show Ending.returned (.bool (decide (wrap64 b ≤ c))) = _
      rw [HM5.out]
  · have HC := Lib.hid (check_no h)
    go_enter Try.func11, Try.ntmps11
    go_wp2_with (first
      | ((with_reducible refine (HC.out _).mono ?_); rintro e w1 ⟨rfl, hb⟩;
          have B1 := bt (bta (Below.refl _ _) _) hb; clear hb))
    go_returns
    exact ⟨by rw [decide_eq_false h]; rfl, B1⟩
end Go.Proofs.Ytgjajliiichfmaa
