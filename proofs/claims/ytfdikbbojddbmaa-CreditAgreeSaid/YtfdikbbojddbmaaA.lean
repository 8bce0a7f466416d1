/- awake: the law's own check of its tools, which answers true. -/
import Derived.Test.YtfdikbbojddbmaaR3
namespace Go.Proofs.Ytfdikbbojddbmaa
open Go.RowKit
attribute [local go_sem] cell_over frozen_over lt_over le_over ne_over over_ne cell_set_same

theorem new_10 (w : World) : Calls Try.prog 7 #[.int .i64 10] w fun e w' => e = .returned (.tuple #[.agg #[.int .i64 10, .int .i64 10, .int .i64 0, .int .i64 0], .int .i64 0]) ∧ Below w.heap.size w w' := new_any 10 w
theorem new_0 (w : World) : Calls Try.prog 7 #[.int .i64 0] w fun e w' => e = .returned (.tuple #[.agg #[.int .i64 0, .int .i64 0, .int .i64 0, .int .i64 0], .int .i64 8]) ∧ Below w.heap.size w w' := new_any 0 w
theorem spend_11 (w : World) : Calls Try.prog 17 #[.agg #[.int .i64 10, .int .i64 10, .int .i64 0, .int .i64 0], .int .i64 11] w fun e w' => e = .returned (.tuple #[.agg #[.int .i64 10, .int .i64 10, .int .i64 0, .int .i64 0], .bool false]) ∧ Below w.heap.size w w' := spend_any 10 10 0 0 11 w
theorem given_5 (w : World) : Calls Try.prog 25 #[.agg #[.int .i64 10, .int .i64 10, .int .i64 0, .int .i64 0], .int .i64 5] w fun e w' => e = .returned (.tuple #[.agg #[.int .i64 10, .int .i64 15, .int .i64 0, .int .i64 0], .bool true]) ∧ Below w.heap.size w w' := given_any 10 10 0 0 5 w
theorem check_16 (w : World) : Calls Try.prog 15 #[.agg #[.int .i64 10, .int .i64 16, .int .i64 6, .int .i64 6]] w fun e w' => e = .returned (.int .i64 0) ∧ Below w.heap.size w w' := check_any 10 16 6 6 w
theorem free_16 (w : World) : Calls Try.prog 13 #[.agg #[.int .i64 10, .int .i64 16, .int .i64 6, .int .i64 6]] w fun e w' => e = .returned (.int .i64 10) ∧ Below w.heap.size w w' := free_any 10 16 6 6 w

def aks (i : Nat) : Nat := [2, 3, 4, 3, 4, 2].getD i 0
def ans (i : Nat) : Int := [6, 4, 0, 9, 0, 17].getD i 0
theorem aks_le (i : Nat) : aks i ≤ 255 := by
  rcases i with _ | _ | _ | _ | _ | _ | i <;> simp [aks]
theorem arun : runV (10, 10, 0, 0) aks ans 6 = (10, 16, 6, 6) := by rfl
def aout (i : Nat) : Int := [6, 0, 0, 0, 6, -1].getD i 0
theorem aouts : ∀ i, i < 6 → resV (10, 10, 0, 0) aks ans i = aout i := by
  intro i hi
  rcases i with _ | _ | _ | _ | _ | _ | i
  all_goals first | rfl | omega

theorem acts_lit {w : World} {b : Nat} (h : w.heap[b]? = some (.cells #[.int .u8 2, .int .i64 6, .int .u8 3, .int .i64 4, .int .u8 4, .int .i64 0, .int .u8 3, .int .i64 9, .int .u8 4, .int .i64 0, .int .u8 2, .int .i64 17] 64 (0, 0))) : Acts w (some ⟨b, 0, none⟩) 6 aks ans := by
  intro i hi
  refine ⟨b, 0, rfl, ?_⟩
  rw [blk_cell h, blk_cell h]
  rcases i with _ | _ | _ | _ | _ | _ | i
  all_goals first | exact ⟨rfl, rfl⟩ | omega
theorem ints_lit {w : World} {b : Nat} (h : w.heap[b]? = some (.cells #[.int .i64 6, .int .i64 0, .int .i64 0, .int .i64 0, .int .i64 6, .int .i64 (-1)] 3 (0, 0))) : Ints w (some ⟨b, 0, none⟩) 6 aout := by
  intro i hi
  refine ⟨b, 0, rfl, ?_⟩
  rw [blk_cell h]
  rcases i with _ | _ | _ | _ | _ | _ | i
  all_goals first | rfl | omega
theorem Ints.congr {w : World} {a : Option Addr} {n : Nat} {f g : Nat → Int} (h : Ints w a n f) (hfg : ∀ i, i < n → f i = g i) : Ints w a n g :=
  fun k hk => by rw [← hfg k hk]; exact h k hk

theorem run_6 (b : Nat) (w : World) (ha : Acts w (some ⟨b, 0, none⟩) 6 aks ans) :
    Calls Try.prog 9 #[.agg #[.int .i64 10, .int .i64 10, .int .i64 0, .int .i64 0], .slice (some ⟨b, 0, none⟩) 6 6] w fun e w' => ∃ a c, e = .returned (.tuple #[.agg #[.int .i64 10, .int .i64 16, .int .i64 6, .int .i64 6], .slice a 6 c]) ∧ Below w.heap.size w w' ∧ Ints w' a 6 aout := by
  refine (run_any 10 10 0 0 _ 6 6 aks ans w ha aks_le (by decide)).mono ?_
  rintro e w' ⟨v, rfl, hb, ho⟩
  obtain ⟨a, c, rfl, hi⟩ := own_ints ho
  refine ⟨a, c, ?_, hb, hi.congr aouts⟩
  rw [arun]

/-- Four cells of a block. -/
theorem cells4 {w : World} {b : Nat} {x0 x1 x2 x3 : Value} {t : TypeId} (h : w.heap[b]? = some (.cells #[x0, x1, x2, x3] t (0, 0))) :
    w.cell? ⟨b, 0, none⟩ = some x0 ∧ w.cell? ⟨b, 1, none⟩ = some x1 ∧ w.cell? ⟨b, 2, none⟩ = some x2 ∧ w.cell? ⟨b, 3, none⟩ = some x3 ∧ b < w.heap.size ∧ b < w.heap.size + 1 ∧ b < w.heap.size + 1 + 1 ∧ b ≠ w.heap.size ∧ b ≠ w.heap.size + 1 := by
  have := blk_lt h
  exact ⟨blk_cell h 0, blk_cell h 1, blk_cell h 2, blk_cell h 3, this, by omega, by omega, by omega, by omega⟩

set_option maxRecDepth 100000 in
set_option maxHeartbeats 4000000 in
theorem awake_any (w : World) : Calls Try.prog 6 #[] w fun e w' => e = .returned (.bool true) ∧ Below w.heap.size w w' := by
  go_enter Try.func6, Try.ntmps6
  go_wp2_with (first
    | ((with_reducible refine (new_10 _).mono ?_); rintro e w1 ⟨rfl, B1⟩)
    | ((with_reducible refine (run_6 _ _ ?_).mono ?_); (exact acts_lit (blk_new (by simp))); rintro e w2 ⟨a, c, rfl, hb, hi⟩;
        have h1 := blk_grow hb (blk_old (blk_new rfl)); have B2 := bt (bta (bta B1 _) _) hb; generalize w1.heap.size = p1 at *; have HI2 := Lib.hid hi; have G2 := cells4 h1; obtain ⟨a0, a1, a2, a3, a4, a5, a6, a7, a8⟩ := G2; clear hb hi B1)
    | ((with_reducible refine (spend_11 _).mono ?_); rintro e w3 ⟨rfl, hb⟩;
        have h1 := blk_grow hb (blk_old h1); have h3 := blk_grow hb (blk_new rfl); have B3 := bt (bta B2 _) hb; generalize w2.heap.size = p3 at *; have HI3 := Lib.hid ((HI2.out.below ((Below.refl _ _).alloc (Nat.le_refl _) _)).below hb); obtain ⟨a0, a1, a2, a3, a4, a5, a6, a7, a8⟩ := cells4 h1; clear hb B2)
    | ((with_reducible refine (given_5 _).mono ?_); rintro e w4 ⟨rfl, hb⟩;
        have h1 := blk_grow hb (blk_old h1); have h3 := blk_grow hb (blk_old h3); have h5 := blk_grow hb (blk_new rfl); have B4 := bt (bta B3 _) hb; generalize w3.heap.size = p5 at *; have HI4 := Lib.hid ((HI3.out.below ((Below.refl _ _).alloc (Nat.le_refl _) _)).below hb); clear hb B3)
    | ((with_reducible refine (new_0 _).mono ?_); rintro e w5 ⟨rfl, hb⟩;
        have h1 := blk_grow hb (blk_old h1); have h3 := blk_grow hb (blk_old h3); have h5 := blk_grow hb (blk_old h5); have h7 := blk_grow hb (blk_new rfl); have B5 := bt (bta B4 _) hb; generalize w4.heap.size = p7 at *; have HI5 := Lib.hid ((HI4.out.below ((Below.refl _ _).alloc (Nat.le_refl _) _)).below hb); clear hb B4)
    | ((with_reducible refine (same_any _ _ 6 _ _ aout _ ?_ ?_ (by decide)).mono ?_); (exact (HI5.out.below ((Below.refl _ _).alloc (Nat.le_refl _) _)).below ((Below.refl _ _).alloc (Nat.le_refl _) _)); (exact ints_lit (blk_new (by simp))); rintro e w6 ⟨rfl, hb⟩;
        have h1 := blk_grow hb (blk_old (blk_old h1)); have h3 := blk_grow hb (blk_old (blk_old h3)); have h5 := blk_grow hb (blk_old (blk_old h5)); have h7 := blk_grow hb (blk_old (blk_old h7)); have B6 := bt (bta (bta B5 _) _) hb; clear hb B5;
        obtain ⟨a0, a1, a2, a3, a4, a5, a6, a7, a8⟩ := cells4 h1; obtain ⟨b0, b1, b2, b3, b4, b5, b6, b7, b8⟩ := cells4 h3; obtain ⟨c0, c1, c2, c3, c4, c5, c6, c7, c8⟩ := cells4 h5; obtain ⟨d0, d1, d2, d3, d4, d5, d6, d7, d8⟩ := cells4 h7)
    | ((with_reducible first | refine (check_16 _).mono ?_ | refine (free_16 _).mono ?_); rintro e w1 ⟨rfl, hb1⟩; (first | obtain ⟨x1, rfl⟩ := as_over2 hb1 | obtain ⟨x1, rfl⟩ := as_over hb1); clear hb1))
  go_returns
  refine ⟨rfl, ?_⟩
  repeat (first | (with_reducible exact B6) | (with_reducible refine bov ?_ _))
end Go.Proofs.Ytfdikbbojddbmaa
