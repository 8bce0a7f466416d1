/- The law CreditSteps: true, whatever the input. -/
import Derived.Test.YtfdikbbojddbmaaA
import Derived.Test.YtfdikbbojddbmaaK
namespace Go.Proofs.Ytfdikbbojddbmaa
open Go.RowKit
attribute [local go_sem] cell_over frozen_over lt_over le_over ne_over over_ne cell_set_same softAt softUpon

theorem set4 {w : World} {b : Nat} {x0 x1 x2 x3 : Value} {t : TypeId} (h : w.heap[b]? = some (.cells #[x0, x1, x2, x3] t (0, 0))) (v0 v1 v2 v3 : Value) :
    ((((w.setCell ⟨b, 0, none⟩ v0).setCell ⟨b, 1, none⟩ v1).setCell ⟨b, 2, none⟩ v2).setCell ⟨b, 3, none⟩ v3).heap[b]? = some (.cells #[v0, v1, v2, v3] t (0, 0)) :=
  blk_set (blk_set (blk_set (blk_set h 0 _) 1 _) 2 _) 3 _
theorem far4 {w : World} {b p : Nat} {o : Obj} (h : w.heap[b]? = some o) (hn : b ≠ p) (v0 v1 v2 v3 : Value) :
    ((((w.setCell ⟨p, 0, none⟩ v0).setCell ⟨p, 1, none⟩ v1).setCell ⟨p, 2, none⟩ v2).setCell ⟨p, 3, none⟩ v3).heap[b]? = some o := by
  rw [blk_far hn, blk_far hn, blk_far hn, blk_far hn]
  exact h
theorem bst4 {a b : World} {p : Nat} (h : Below a.heap.size a b) (hp : a.heap.size ≤ p) (v0 v1 v2 v3 : Value) :
    Below a.heap.size a ((((b.setCell ⟨p, 0, none⟩ v0).setCell ⟨p, 1, none⟩ v1).setCell ⟨p, 2, none⟩ v2).setCell ⟨p, 3, none⟩ v3) := bst (bst (bst (bst h hp _) hp _) hp _) hp _

set_option maxRecDepth 100000 in
set_option maxHeartbeats 4000000 in
theorem steps_any (g a b c : Int) (w : World) (hg : 0 ≤ g ∧ g ≤ 255) (ha : 0 ≤ a ∧ a ≤ 255) (hb : 0 ≤ b ∧ b ≤ 255) (hc : 0 ≤ c ∧ c ≤ 255) :
    Calls Try.prog 5 #[.int .u8 g, .agg #[.int .u8 a, .int .u8 b, .int .u8 c]] w fun e w' => e = .returned (.bool true) ∧ Below w.heap.size w w' := by
  obtain ⟨W, hW⟩ : ∃ W, W = 1 + g := ⟨_, rfl⟩
  obtain ⟨A, hA⟩ : ∃ A, A = if W < a then W else a := ⟨_, rfl⟩
  obtain ⟨D, hD⟩ : ∃ D, D = if W < a + b then W else a + b := ⟨_, rfl⟩
  have w1 : 1 ≤ W := by omega
  have w2 : W ≤ 256 := by omega
  have A0 : 0 ≤ A := by rw [hA]; split <;> omega
  have A1 : A ≤ D := by rw [hA, hD]; split <;> split <;> omega
  have A2 : D ≤ W := by rw [hD]; split <;> omega
  have N := new_any W
  rw [new_w (by omega) (by omega), hW] at N
  have HN := Lib.hid N
  clear N
  have R1 := reach_any W W 0 0 A
  rw [reach_w w1 w2 (Int.le_refl _) A0 (by omega), Int.sub_zero] at R1
  have R2 := reach_any W W A 0 D
  rw [reach_w w1 w2 A0 A1 A2] at R2
  have R3 := reach_any W W 0 0 D
  rw [reach_w w1 w2 (Int.le_refl _) (by omega) A2, Int.sub_zero] at R3
  have R4 := reach_any W W 0 0 (W + 1)
  rw [reach_over] at R4
  replace R1 := Lib.hid R1
  replace R2 := Lib.hid R2
  replace R3 := Lib.hid R3
  replace R4 := Lib.hid R4
  have T1 := eat_any W W D 0 (c / 2)
  have T2 := eat_any (eatV (W, W, D, 0) (c / 2)).1 (eatV (W, W, D, 0) (c / 2)).2.1 (eatV (W, W, D, 0) (c / 2)).2.2.1 (eatV (W, W, D, 0) (c / 2)).2.2.2 (c - c / 2)
  have T3 := eat_any W W D 0 c
  rw [show ((eatV (W, W, D, 0) (c / 2)).1, (eatV (W, W, D, 0) (c / 2)).2.1, (eatV (W, W, D, 0) (c / 2)).2.2.1, (eatV (W, W, D, 0) (c / 2)).2.2.2) = eatV (W, W, D, 0) (c / 2) from rfl, steps_eat w1 w2 (by omega) A2 hc.1] at T2
  generalize eatV (W, W, D, 0) (c / 2) = ev at *
  generalize eatV (W, W, D, 0) c = rv at *
  obtain ⟨ev0, ev1, ev2, ev3⟩ := ev
  obtain ⟨rv0, rv1, rv2, rv3⟩ := rv
  replace T1 := Lib.hid T1
  replace T2 := Lib.hid T2
  replace T3 := Lib.hid T3
  have S1 := Lib.hid (spend_any W W 0 0 a)
  have S3 := Lib.hid (spend_any W W 0 0 (a + b))
  generalize e1 : spendV (W, W, 0, 0) a = v1 at *
  generalize e3 : spendV (W, W, 0, 0) (a + b) = v3 at *
  obtain ⟨⟨x0, x1, x2, x3⟩, i⟩ := v1
  obtain ⟨⟨y0, y1, y2, y3⟩, is⟩ := v3
  have S2 := Lib.hid (spend_any x0 x1 x2 x3 b)
  generalize e2 : spendV (x0, x1, x2, x3) b = v2 at *
  obtain ⟨⟨z0, z1, z2, z3⟩, k⟩ := v2
  dsimp only at *
  have EE := Lib.hid (steps_spend w1 w2 ha.1 hb.1 e1 e2 e3)
  clear e1 e2 e3
  obtain ⟨g0, g1⟩ := hg
  obtain ⟨ha0, ha1⟩ := ha
  obtain ⟨hb0, hb1⟩ := hb
  obtain ⟨hc0, hc1⟩ := hc
  have na : IntKind.i64.wrap a = a := IntWalk.i64_in _ (by omega)
  have nb : IntKind.i64.wrap b = b := IntWalk.i64_in _ (by omega)
  have nc : IntKind.i64.wrap c = c := IntWalk.i64_in _ (by omega)
  have nq : IntKind.i64.wrap (c.tdiv 2) = c / 2 := by rw [Int.tdiv_eq_ediv_of_nonneg hc0]; exact IntWalk.i64_in _ (by omega)
  have ns : IntKind.i64.wrap (c - c / 2) = c - c / 2 := IntWalk.i64_in _ (by omega)
  have n1 : IntKind.i64.wrap g = g := IntWalk.i64_in _ (by omega)
  have n2 : IntKind.i64.wrap (1 + g) = 1 + g := IntWalk.i64_in _ (by omega)
  have HW := Lib.hid hW
  have HA := Lib.hid hA
  have HD := Lib.hid hD
  clear hW hA hD
  go_enter Try.func5, Try.ntmps5
  go_wp2_with (first
    | ((with_reducible refine (HN.out _).mono ?_); rintro e w1 ⟨rfl, hb⟩; rw [← HW.out];
       have h3 := blk_grow hb (blk_new rfl); have B1 := bt (bta (Below.refl _ _) _) hb; clear hb; generalize hp3 : w.heap.size = p3 at h3 ⊢)
    | ((with_reducible refine (S1.out _).mono ?_); refine unhalt ?_))
  try rw [← HW.out]
  have q3 := blk_lt h3
  replace h3 := blk_old (o := .cells #[.int .i64 W, .int .i64 W, .int .i64 0, .int .i64 0] 26) h3
  have h6 := blk_new (w := w1) (o := .cells #[.int .i64 W, .int .i64 W, .int .i64 0, .int .i64 0] 26) rfl
  have B2 := bta B1 (.cells #[.int .i64 W, .int .i64 W, .int .i64 0, .int .i64 0] 26)
  generalize hp6 : w1.heap.size = p6 at h6 q3 ⊢
  generalize w1.alloc (.cells #[.int .i64 W, .int .i64 W, .int .i64 0, .int .i64 0] 26) = w2 at *
  clear B1 hp6 hp3
  have r0 := blk_cell h3 0
  have r1 := blk_cell h3 1
  have r2 := blk_cell h3 2
  have l3 := blk_lt h3
  simp only [List.getElem?_toArray, List.getElem?_cons_zero, List.getElem?_cons_succ] at r0 r1 r2
  refine wp_soft0 8 (by kernel_rfl) (by kernel_rfl) (tail_end (by kernel_rfl)) ?_
  simp only [List.take_succ_cons, List.take_zero]
  repeat (refine softLex_step (by rfl) (by rfl) (fun K hK => ?_); go_simp; (refine hK _ ?_; clear hK K))
  refine softLex_nil ?_
  intro w5 hb5
  replace h3 := blk_grow hb5 h3
  replace h6 := blk_grow hb5 h6
  have B3 := bt B2 hb5
  clear hb5 B2 r0 r1 r2 l3
  obtain ⟨a0, a1, a2, a3, a4, a5, a6, a7, a8⟩ := cells4 h6
  go_wp2_with (first
    | ((with_reducible refine (S1.out _).mono ?_); rintro e w3 ⟨rfl, hb⟩; 
       replace h3 := blk_grow hb h3; replace h6 := blk_grow hb h6; have B4 := bt B3 hb; clear hb B3 a0 a1 a2 a3 a4 a5 a6 a7 a8; obtain ⟨a0, a1, a2, a3, a4, a5, a6, a7, a8⟩ := cells4 h6)
    | ((with_reducible refine (S2.out _).mono ?_); rintro e w4 ⟨rfl, hb⟩;
       have q6 := blk_lt h6; have s10 := B4.size; replace h3 := blk_grow hb (blk_old h3); replace h6 := blk_grow hb (blk_old h6); have h10 := blk_grow hb (blk_new rfl); have B5 := bt (bta B4 _) hb; clear hb B4 a0 a1 a2 a3 a4 a5 a6 a7 a8; generalize w3.heap.size = p10 at *;
       obtain ⟨a0, a1, a2, a3, a4, a5, a6, a7, a8⟩ := cells4 h6; obtain ⟨b0, b1, b2, b3, b4, b5, b6, b7, b8⟩ := cells4 h10; have f0 := blk_free h10 0; have f1 := blk_free h10 1; have f2 := blk_free h10 2; have f3 := blk_free h10 3; have d1 : p6 ≠ p10 := Nat.ne_of_lt q6; have d2 : p10 ≠ p6 := Nat.ne_of_gt q6)
    | ((with_reducible refine (S3.out _).mono ?_); rintro e w5 ⟨rfl, hb⟩;
       replace h3 := blk_grow hb (far4 h3 (Nat.ne_of_lt (Nat.lt_trans q3 q6)) _ _ _ _); replace h6 := blk_grow hb (far4 h6 d1 _ _ _ _); replace h10 := blk_grow hb (set4 h10 _ _ _ _); have B6 := bt (bst4 B5 s10 _ _ _ _) hb; clear hb B5 a0 a1 a2 a3 a4 a5 a6 a7 a8 b0 b1 b2 b3 b4 b5 b6 b7 b8 f0 f1 f2 f3 d1 d2;
       obtain ⟨a0, a1, a2, a3, a4, a5, a6, a7, a8⟩ := cells4 h6)
    | (rw [← HA.out]; (with_reducible refine (R1.out _).mono ?_); rintro e w6 ⟨rfl, hb⟩;
       replace h3 := blk_grow hb (blk_old h3); replace h6 := blk_grow hb (blk_old h6); replace h10 := blk_grow hb (blk_old h10); have h13 := blk_grow hb (blk_new rfl); have B7 := bt (bta B6 _) hb; clear hb B6 a0 a1 a2 a3 a4 a5 a6 a7 a8; generalize w5.heap.size = p13 at *;
       obtain ⟨a0, a1, a2, a3, a4, a5, a6, a7, a8⟩ := cells4 h6)
    | (rw [← HD.out]; (with_reducible refine (R2.out _).mono ?_); rintro e w7 ⟨rfl, hb⟩;
       have q13 := blk_lt h13; have q16 := blk_lt h6; have q110 := blk_lt h10; have s15 := B7.size; replace h3 := blk_grow hb (blk_old h3); replace h6 := blk_grow hb (blk_old h6); replace h10 := blk_grow hb (blk_old h10); replace h13 := blk_grow hb (blk_old h13); have h15 := blk_grow hb (blk_new rfl); have B8 := bt (bta B7 _) hb; clear hb B7 a0 a1 a2 a3 a4 a5 a6 a7 a8; generalize w6.heap.size = p15 at *;
       obtain ⟨a0, a1, a2, a3, a4, a5, a6, a7, a8⟩ := cells4 h6; obtain ⟨b0, b1, b2, b3, b4, b5, b6, b7, b8⟩ := cells4 h15; have f0 := blk_free h15 0; have f1 := blk_free h15 1; have f2 := blk_free h15 2; have f3 := blk_free h15 3; have d1 : p6 ≠ p15 := Nat.ne_of_lt q16; have d2 : p15 ≠ p6 := Nat.ne_of_gt q16)
    | (rw [← HD.out]; (with_reducible refine (R3.out _).mono ?_); rintro e w8 ⟨rfl, hb⟩;
       replace h3 := blk_grow hb (far4 h3 (Nat.ne_of_lt (Nat.lt_trans q3 q16)) _ _ _ _); replace h6 := blk_grow hb (far4 h6 d1 _ _ _ _); replace h10 := blk_grow hb (far4 h10 (Nat.ne_of_lt q110) _ _ _ _); replace h13 := blk_grow hb (far4 h13 (Nat.ne_of_lt q13) _ _ _ _); replace h15 := blk_grow hb (set4 h15 _ _ _ _); have B9 := bt (bst4 B8 s15 _ _ _ _) hb; clear hb B8 a0 a1 a2 a3 a4 a5 a6 a7 a8 b0 b1 b2 b3 b4 b5 b6 b7 b8 f0 f1 f2 f3 d1 d2;
       obtain ⟨a0, a1, a2, a3, a4, a5, a6, a7, a8⟩ := cells4 h6))
  replace h3 := blk_old (o := .cells #[.int .i64 W, .int .i64 W, .int .i64 D, .int .i64 0] 26) h3
  replace h6 := blk_old (o := .cells #[.int .i64 W, .int .i64 W, .int .i64 D, .int .i64 0] 26) h6
  replace h10 := blk_old (o := .cells #[.int .i64 W, .int .i64 W, .int .i64 D, .int .i64 0] 26) h10
  replace h13 := blk_old (o := .cells #[.int .i64 W, .int .i64 W, .int .i64 D, .int .i64 0] 26) h13
  replace h15 := blk_old (o := .cells #[.int .i64 W, .int .i64 W, .int .i64 D, .int .i64 0] 26) h15
  have h20 := blk_new (w := w8) (o := .cells #[.int .i64 W, .int .i64 W, .int .i64 D, .int .i64 0] 26) rfl
  have B10 := bta B9 (.cells #[.int .i64 W, .int .i64 W, .int .i64 D, .int .i64 0] 26)
  generalize w8.heap.size = p20 at *
  generalize w8.alloc (.cells #[.int .i64 W, .int .i64 W, .int .i64 D, .int .i64 0] 26) = w9 at *
  clear B9 a0 a1 a2 a3 a4 a5 a6 a7 a8
  have r0 := blk_cell h3 0
  have r1 := blk_cell h3 1
  have r2 := blk_cell h3 2
  have l3 := blk_lt h3
  simp only [List.getElem?_toArray, List.getElem?_cons_zero, List.getElem?_cons_succ] at r0 r1 r2
  obtain ⟨a0, a1, a2, a3, a4, a5, a6, a7, a8⟩ := cells4 h15
  refine wp_soft1 17 ⟨15, 23, fun b => .pointer (some ⟨b, 0, none⟩), led26 (0, 0, 0, 0), some 16, led26 (rv0, rv1, rv2, rv3)⟩ (by kernel_rfl) (by kernel_rfl) (tail_end (by kernel_rfl)) ?_
  simp only [List.take_succ_cons, List.take_zero]
  repeat (first | (refine softLex_step (by rfl) (by rfl) (fun K hK => ?_); go_simp; first | (refine hK _ ?_; clear hK K) | (apply Exists.intro; refine ⟨fun x => ?_, hK _ ?_⟩; (first | (with_reducible exact T1.out _) | (with_reducible exact T2.out _)); clear hK K)))
  refine softLex_new _ rfl rfl rfl (fun y => by go_simp; rfl) ?_
  refine softLex_fill _ rfl rfl rfl rfl (fun y b hb => ?_) ?_
  · unfold led26 at hb
    obtain ⟨e0, e1, e2, e3, _, _, _, _, _⟩ := cells4 hb
    have e4 := blk_free hb 0
    have e5 := blk_free hb 1
    have e6 := blk_free hb 2
    have e7 := blk_free hb 3
    refine ⟨_, ?_, ((((Turned.refl hb).setCell 0 _).setCell 1 _).setCell 2 _).setCell 3 _⟩
    go_simp
  refine softLex_nil ?_
  intro w10 p23 hb10 hp23 h23
  have h23 : w10.heap[p23]? = some (.cells #[.int .i64 rv0, .int .i64 rv1, .int .i64 rv2, .int .i64 rv3] 26 (0, 0)) := h23
  replace h3 := blk_grow hb10 h3
  replace h6 := blk_grow hb10 h6
  replace h10 := blk_grow hb10 h10
  replace h13 := blk_grow hb10 h13
  replace h15 := blk_grow hb10 h15
  replace h20 := blk_grow hb10 h20
  have B11 := bt B10 hb10
  clear hb10 B10 hp23 r0 r1 r2 l3 a0 a1 a2 a3 a4 a5 a6 a7 a8
  obtain ⟨a0, a1, a2, a3, a4, a5, a6, a7, a8⟩ := cells4 h6
  go_wp2_with (first
    | ((with_reducible refine (R4.out _).mono ?_); rintro e w11 ⟨rfl, hb⟩;
       replace h3 := blk_grow hb h3; replace h10 := blk_grow hb h10; replace h13 := blk_grow hb h13; replace h15 := blk_grow hb h15; replace h20 := blk_grow hb h20; replace h23 := blk_grow hb h23; have B12 := bt B11 hb; clear hb B11 h6 a0 a1 a2 a3 a4 a5 a6 a7 a8))
  replace h3 := blk_old (o := .cells #[.int .i64 W, .int .i64 W, .int .i64 0, .int .i64 0] 26) h3
  replace h10 := blk_old (o := .cells #[.int .i64 W, .int .i64 W, .int .i64 0, .int .i64 0] 26) h10
  replace h13 := blk_old (o := .cells #[.int .i64 W, .int .i64 W, .int .i64 0, .int .i64 0] 26) h13
  replace h15 := blk_old (o := .cells #[.int .i64 W, .int .i64 W, .int .i64 0, .int .i64 0] 26) h15
  replace h20 := blk_old (o := .cells #[.int .i64 W, .int .i64 W, .int .i64 0, .int .i64 0] 26) h20
  replace h23 := blk_old (o := .cells #[.int .i64 W, .int .i64 W, .int .i64 0, .int .i64 0] 26) h23
  have B13 := bta B12 (.cells #[.int .i64 W, .int .i64 W, .int .i64 0, .int .i64 0] 26)
  generalize w11.heap.size = p24 at *
  generalize w11.alloc (.cells #[.int .i64 W, .int .i64 W, .int .i64 0, .int .i64 0] 26) = w12 at *
  have E := EE.out
  have nD : IntKind.i64.wrap (A + (D - A)) = D := by rw [show A + (D - A) = D by omega]; exact IntWalk.i64_in _ (by omega)
  clear B12 EE S1 S2 S3 R1 R2 R3 R4 T1 T2 HN HA HD HW nq ns na nb n1 n2
  obtain ⟨a0, a1, a2, a3, a4, a5, a6, a7, a8⟩ := cells4 h10
  obtain ⟨b0, b1, b2, b3, b4, b5, b6, b7, b8⟩ := cells4 h13
  obtain ⟨c0, c1, c2, c3, c4, c5, c6, c7, c8⟩ := cells4 h15
  obtain ⟨d0, d1, d2, d3, d4, d5, d6, d7, d8⟩ := cells4 h20
  obtain ⟨e0, e1, e2, e3, e4, e5, e6, e7, e8⟩ := cells4 h23
  have r2 := blk_cell h3 2
  have l3 := blk_lt h3
  simp only [List.getElem?_toArray, List.getElem?_cons_zero, List.getElem?_cons_succ] at r2
  rcases E with ⟨rfl, rfl⟩ | ⟨rfl, rfl, rfl⟩ | ⟨rfl, rfl, rfl, hxy⟩
  case' inr.inr =>
    obtain ⟨rfl, rfl, rfl, rfl⟩ : z0 = y0 ∧ z1 = y1 ∧ z2 = y2 ∧ z3 = y3 := by simpa using hxy
  all_goals refine wp_soft0 53 (by kernel_rfl) (by kernel_rfl) (tail_end (by kernel_rfl)) ?_
  all_goals simp only [List.take_succ_cons, List.take_zero]
  all_goals repeat (first | (refine softLex_step (by rfl) (by rfl) (fun K hK => ?_); go_simp; first | (refine hK _ ?_; clear hK K) | (apply Exists.intro; refine ⟨fun x => ?_, hK _ ?_⟩; (first | (with_reducible exact T3.out _) | (with_reducible exact awake_any _)); clear hK K)))
  all_goals refine softLex_nil ?_
  all_goals intro w13 hb13
  all_goals replace B13 := bt B13 hb13
  all_goals go_wp2
  all_goals go_returns
  all_goals exact ⟨rfl, B13⟩
end Go.Proofs.Ytfdikbbojddbmaa
