/- awake: the law's own check of some numbers, which answers true. -/
import Derived.Test.YtgiijgnajhlpeaaT10
namespace Go.Proofs.Ytgiijgnajhlpeaa
open Go.RowKit
attribute [local go_sem] cell_over frozen_over lt_over le_over ne_over over_ne cell_set_same softAt softUpon lightUpon heavyUpon cell_kept frozen_kept

theorem ints_two (w : World) (x y : Int) (t : TypeId) (fz : Nat × Nat) {b : Nat} (h : w.heap[b]? = some (.cells #[.int .i64 x, .int .i64 y] t fz)) : IntsIn w (some ⟨b, 0, none⟩) [x, y] := by
  intro i z hi
  have hi2 : (i = 0 ∧ z = x) ∨ (i = 1 ∧ z = y) := by
    rcases i with _ | _ | i
    · left; simpa [eq_comm] using hi
    · right; simpa [eq_comm] using hi
    · simp at hi
  rcases hi2 with ⟨rfl, rfl⟩ | ⟨rfl, rfl⟩
  · exact ⟨b, 0, rfl, by rw [blk_cell h]; rfl⟩
  · exact ⟨b, 0, rfl, by rw [blk_cell h]; rfl⟩

theorem put_a (w : World) : Calls Try.prog 8 #[.int .i64 15293] w fun e w' => ∃ v, e = .returned (.tuple #[v, .int .i64 0]) ∧ Below w.heap.size w w' ∧ Row w' w.heap.size v [123, 189] := put_some 15293 w (by decide)
def PutA (w : World) (e : Ending) (w' : World) : Prop := ∃ v, e = .returned (.tuple #[v, .int .i64 0]) ∧ Below w.heap.size w w' ∧ Row w' w.heap.size v [123, 189]
theorem putA_d (w : World) : Calls Try.prog 8 #[.int .i64 15293] w (PutA w) := put_a w
theorem getA (w : World) : Calls Try.prog 14 #[.string ⟨#[157, 127, 62, 125, 0]⟩] w fun e w' => e = .returned (.tuple #[.int .i64 494878333, .int .i64 4, .int .i64 0]) ∧ Below w.heap.size w w' := get_any [157, 127, 62, 125, 0] w (by decide)
theorem getB (w : World) : Calls Try.prog 14 #[.string ⟨#[64, 37]⟩] w fun e w' => e = .returned (.tuple #[.int .i64 0, .int .i64 0, .int .i64 4]) ∧ Below w.heap.size w w' := get_any [64, 37] w (by decide)
theorem putB_neg (w : World) : Calls Try.prog 8 #[.int .i64 (-1)] w fun e w' => e = .returned (.tuple #[.slice none 0 0, .int .i64 8]) ∧ Below w.heap.size w w' := put_none (-1) w (.inl (by decide))
def AllA (w : World) (e : Ending) (w' : World) : Prop := Below w.heap.size w w' ∧ ∃ a c, e = .returned (.tuple #[.slice a 2 c, .int .i64 0]) ∧ IntsIn w' a [37, 15293]
theorem allA (w : World) : Calls Try.prog 16 #[.string ⟨#[37, 123, 189]⟩] w (AllA w) := (all_any [37, 123, 189] w (by decide)).mono fun e w' ⟨hb, v, he, hr⟩ => by
  have h1 : allP [37, 123, 189] = ([37, 15293], 0) := by decide
  rw [h1] at he hr
  obtain ⟨a, c, rfl, hi⟩ := hr.ints
  exact ⟨hb, a, c, he, hi⟩
def JoinA (w : World) (e : Ending) (w' : World) : Prop := Below w.heap.size w w' ∧ ∃ v, e = .returned (.tuple #[v, .int .i64 0]) ∧ Row w' w.heap.size v [37, 192, 0, 0, 0, 64, 0, 0, 0]
theorem joinA (w : World) (b c : Nat) (h : w.heap[b]? = some (.cells #[.int .i64 37, .int .i64 1073741824] 3 (0, 0))) : Calls Try.prog 10 #[.slice (some ⟨b, 0, none⟩) 2 c] w (JoinA w) := (join_top _ 2 c [37, 1073741824] w (ints_two w 37 1073741824 3 (0, 0) h) rfl (by decide)).mono fun e w' ⟨hb, v, he, hr⟩ => by
  have h1 : joinR [37, 1073741824] = ([37, 192, 0, 0, 0, 64, 0, 0, 0], 0) := by decide
  rw [h1] at he hr
  exact ⟨hb, v, he, hr⟩
theorem sameA (w : World) (a : Option Addr) (c b c2 : Nat) (h1 : IntsIn w a [37, 15293]) (h2 : w.heap[b]? = some (.cells #[.int .i64 37, .int .i64 15293] 3 (0, 0))) : Calls Try.prog 18 #[.slice a 2 c, .slice (some ⟨b, 0, none⟩) 2 c2] w fun e w' => e = .returned (.bool true) ∧ Below w.heap.size w w' :=
  same_any a _ 2 c c2 [37, 15293] w h1 (ints_two w 37 15293 3 (0, 0) h2) rfl (by decide)
theorem sizeA (w : World) : Calls Try.prog 12 #[.int .i64 64] w fun e w' => e = .returned (.int .i64 2) ∧ Below w.heap.size w w' := size_any 64 w
theorem sizeB (w : World) : Calls Try.prog 12 #[.int .i64 (-1)] w fun e w' => e = .returned (.int .i64 0) ∧ Below w.heap.size w w' := size_any (-1) w

set_option maxRecDepth 100000 in
set_option maxHeartbeats 4000000 in
theorem awake_any (w : World) : Calls Try.prog 7 #[] w fun e w' => e = .returned (.bool true) ∧ Below w.heap.size w w' := by
  go_enter Try.func7, Try.ntmps7
  go_wp2_with (first | ((with_reducible refine (putA_d _).mono ?_); refine unhalt ?_))
  unfold Halted
  rintro e w1 ⟨v1, rfl, B1, hr1⟩
  have R1 := Lib.hid hr1
  clear hr1
  dsimp only
  go_wp2_with (first
    | ((with_reducible refine (getA _).mono ?_); rintro e w2 ⟨rfl, hb⟩; have B2 := bt B1 hb; have R2 := Lib.hid (R1.out.below hb); clear hb)
    | ((with_reducible refine (getB _).mono ?_); rintro e w3 ⟨rfl, hb⟩; have B3 := bt B2 hb; have R3 := Lib.hid (R2.out.below hb); clear hb)
    | ((with_reducible refine (putB_neg _).mono ?_); rintro e w4 ⟨rfl, hb⟩; have B4 := bt B3 hb; have R4 := Lib.hid (R3.out.below hb); clear hb)
    | ((with_reducible refine (allA _).mono ?_); refine unhalt ?_))
  unfold Halted
  rintro e w5 ⟨hb, a5, c5, rfl, hi⟩
  have B5 := bt B4 hb
  have R5 := Lib.hid (R4.out.below hb)
  have I5 := Lib.hid hi
  clear hb hi B1 B2 B3 B4 R1 R2 R3 R4
  dsimp only
  go_wp2_with (first
    | ((with_reducible refine (joinA _ _ _ ?_).mono ?_); (exact blk_new rfl); refine unhalt ?_))
  unfold Halted
  rintro e w6 ⟨hb, v6, rfl, hr6⟩
  have hal := (Below.refl w5.heap.size w5).alloc (Nat.le_refl _) (.cells #[.int .i64 37, .int .i64 1073741824] 3)
  have hb6 := hal.trans (hb.mono hal.size)
  have B6 := bt B5 hb6
  have R6 := Lib.hid (R5.out.below hb6)
  have I6 := Lib.hid (I5.out.below hb6)
  have S6 := Lib.hid hr6
  have hcv1 := R6.out.conv
  clear hb hb6 hal B5 R5 I5 hr6
  dsimp only
  go_wp2_with (first
    | ((with_reducible refine (sameA _ _ _ _ _ (I6.out.below ((Below.refl _ _).alloc (Nat.le_refl _) _)) (blk_new rfl)).mono ?_); refine unhalt ?_))
  unfold Halted
  rintro e w7 ⟨rfl, hb⟩
  have hal := (Below.refl w6.heap.size w6).alloc (Nat.le_refl _) (.cells #[.int .i64 37, .int .i64 15293] 3)
  have hb7 := hal.trans (hb.mono hal.size)
  have B7 := bt B6 hb7
  have hcv2 := (S6.out.below hb7).conv
  clear hb hb7 hal B6 I6 hcv1
  dsimp only
  go_wp2_with (first
    | ((with_reducible refine (sizeA _).mono ?_); rintro e w8 ⟨rfl, hb⟩; have B8 := bt B7 hb; clear hb)
    | ((with_reducible refine (sizeB _).mono ?_); rintro e w9 ⟨rfl, hb⟩; have B9 := bt B8 hb; clear hb))
  go_returns
  exact ⟨rfl, B9⟩
end Go.Proofs.Ytgiijgnajhlpeaa
