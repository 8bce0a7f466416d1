/- The contracts of Push, Peek, Drop and Pop of the package ring where nothing goes in or out, and of New at any room. -/
import Derived.Test.YtckmahgkeinggaaT6
namespace Go.Proofs.Ytckmahgkeinggaa
open Go.RowKit
attribute [local go_sem] cell_over frozen_over lt_over le_over ne_over over_ne cell_set_same softAt softUpon

theorem push_zero {w : World} {pr pc m : Nat} {h k t : Int} {cur : List Value} (hm : InMem w pr pc m h k t cur) (a : Option Addr) (len c : Nat) (h0 : len = 0 ∨ k = m) :
    Calls Try.prog 13 #[.pointer (some ⟨pr, 0, none⟩), .slice a len c] w fun e w' => e = .returned (.int .i64 0) ∧ Below w.heap.size w w' := by
  have R := room_any hm.ring hm.m2 hm.k0 hm.k1
  have hmin : (if (m : Int) - k < len then (m : Int) - k else (len : Int)) = 0 := by
    have := hm.k1
    rcases h0 with rfl | rfl
    · split <;> omega
    · split <;> omega
  have HR := Lib.hid R
  have HM := Lib.hid hmin
  clear R hmin h0 hm
  go_enter Try.func13, Try.ntmps13
  go_upto_region 2 with (first
    | ((with_reducible refine HR.out.mono ?_); rintro e w1 ⟨rfl, hb⟩))
  rw [HM.out]
  go_wp2
  go_returns
  exact ⟨rfl, hb⟩

theorem drop_zero {w : World} {pr pc m : Nat} {h k t : Int} {cur : List Value} (hm : InMem w pr pc m h k t cur) (n : Int) (h0 : n < 1 ∨ k = 0) :
    Calls Try.prog 12 #[.pointer (some ⟨pr, 0, none⟩), .int .i64 n] w fun e w' => e = .returned (.int .i64 0) ∧ Below w.heap.size w w' := by
  have L := len_any hm.ring
  obtain ⟨x, hx⟩ : ∃ x, x = if k < n then k else n := ⟨_, rfl⟩
  have hx1 : x < 1 := by
    have := hm.k0
    rw [hx]
    rcases h0 with h0 | rfl
    · split <;> omega
    · split <;> omega
  have HL := Lib.hid L
  have HX := Lib.hid hx
  clear L hx h0 hm
  go_enter Try.func12, Try.ntmps12
  go_upto_region 2 with (first
    | ((with_reducible refine HL.out.mono ?_); rintro e w1 ⟨rfl, hb⟩))
  rw [← HX.out]
  go_wp2
  go_returns
  exact ⟨rfl, hb⟩

theorem peek_zero {w : World} {pr pc m : Nat} {h k t : Int} {cur : List Value} (hm : InMem w pr pc m h k t cur) (f n : Int) (h0 : f < 0 ∨ k < f ∨ n < 1 ∨ f = k) :
    Calls Try.prog 18 #[.pointer (some ⟨pr, 0, none⟩), .int .i64 f, .int .i64 n] w fun e w' => e = .returned (.slice none 0 0) ∧ Below w.heap.size w w' := by
  have L := fun W hW => len_any (w := W) (pr := pr) (pc := pc) (m := m) (h := h) (k := k) (t := t) hW
  have HL := Lib.hid L
  have HR := Lib.hid hm.ring
  have hk0 := hm.k0
  have hk1 := hm.k1
  have hm2 := hm.m2
  clear L hm
  by_cases c1 : f < 0
  · go_enter Try.func18, Try.ntmps18
    go_wp2
    go_returns
    exact ⟨rfl, Below.refl _ _⟩
  · by_cases c2 : k < f
    · go_enter Try.func18, Try.ntmps18
      go_wp2_with (first | ((with_reducible refine (HL.out _ HR.out).mono ?_); rintro e w1 ⟨rfl, hb⟩))
      go_returns
      exact ⟨rfl, hb⟩
    · by_cases c3 : n < 1
      · go_enter Try.func18, Try.ntmps18
        go_wp2_with (first | ((with_reducible refine (HL.out _ HR.out).mono ?_); rintro e w1 ⟨rfl, hb⟩))
        go_returns
        exact ⟨rfl, hb⟩
      · obtain rfl : f = k := by omega
        have c4 : IntKind.i64.wrap (f - f) = 0 := by rw [Int.sub_self]; rfl
        have c5 : (0 : Int) < n := by omega
        go_enter Try.func18, Try.ntmps18
        go_wp2_with (first
          | ((with_reducible refine (HL.out w HR.out).mono ?_); rintro e w1 ⟨rfl, hb⟩)
          | ((with_reducible refine (HL.out _ (blk_grow hb HR.out)).mono ?_); rintro e w2 ⟨rfl, hb2⟩))
        go_returns
        exact ⟨rfl, bt hb hb2⟩

theorem pop_zero {w : World} {pr pc m : Nat} {h k t : Int} {cur : List Value} (hm : InMem w pr pc m h k t cur) (n : Int) (h0 : n < 1 ∨ k = 0) :
    Calls Try.prog 10 #[.pointer (some ⟨pr, 0, none⟩), .int .i64 n] w fun e w' => e = .returned (.slice none 0 0) ∧ Below w.heap.size w w' := by
  have P := peek_zero hm 0 n (by rcases h0 with h0 | h0 <;> omega)
  have HP := Lib.hid P
  have HM := Lib.hid hm
  clear P hm h0
  go_enter Try.func10, Try.ntmps10
  go_wp2_with (first
    | ((with_reducible refine HP.out.mono ?_); rintro e w1 ⟨rfl, hb⟩)
    | ((with_reducible refine (drop_zero (HM.out.below hb) 0 (Or.inl (by decide))).mono ?_); rintro e w2 ⟨rfl, hb2⟩))
  go_returns
  exact ⟨rfl, bt hb hb2⟩

theorem new_any (w : World) (m : Nat) (m1 : 1 ≤ m) (m2 : m ≤ 4096) : Calls Try.prog 8 #[.int .i64 m] w fun e w' => ∃ pr pc, e = .returned (.tuple #[.pointer (some ⟨pr, 0, none⟩), .int .i64 0]) ∧ Below w.heap.size w w' ∧ w.heap.size ≤ pr ∧ w.heap.size ≤ pc ∧ InMem w' pr pc m 0 0 0 (zeros m) := by
  obtain ⟨i0, hi, hz0, hz1, hz2⟩ := info_parts info5
  have hmk : (Instr.makeSlice 33 (.int .i64 (m : Int)) (.int .i64 (m : Int))).run Try.prog w = .ok (.slice (some ⟨w.heap.size, 0, none⟩) m m) (w.alloc (.cells (zeros m).toArray 5)) := by
    have := run_makeSlice (P := Try.prog) w 33 5 i0 (.int .u8 0) Try.underlying33 hi hz0 .i64 .i64 (m : Int) (m : Int) (by omega) (Int.le_refl _) (by rw [hz1]; simp; omega) (by rw [hz2]; omega) (by omega)
    rw [hz1] at this
    rw [this]
    have hmc : madeCells (Value.cells (.int .u8 0)) (Int.toNat (m : Int) * 1) = (zeros m).toArray := by
      apply Array.ext
      · simp [size_madeCells, zeros]
      · intro i h1 h2
        simp [madeCells, Value.cells, zeros, Nat.mod_one]
    rw [hmc]
    simp
  have c1 : ¬ (m : Int) < 1 := by omega
  have c2 : ¬ (m : Int) > 4096 := by omega
  go_enter Try.func8, Try.ntmps8
  go_wp2
  go_returns
  refine ⟨w.heap.size + 1, rfl, by go_grown, by omega, w.heap.size, Nat.le_refl _, ?_⟩
  exact { ring := (blk_new (by simp)).trans rfl, cells := (blk_old (blk_new rfl)).trans rfl, len := by simp [zeros], ne := by omega, m1 := m1, m2 := m2, h0 := Int.le_refl _, h1 := by omega, k0 := Int.le_refl _, k1 := by omega }
theorem new_none (w : World) (n : Int) (h : n < 1 ∨ 4096 < n) : Calls Try.prog 8 #[.int .i64 n] w fun e w' => e = .returned (.tuple #[.pointer none, .int .i64 8]) ∧ Below w.heap.size w w' := by
  rcases h with h | h
  · go_enter Try.func8, Try.ntmps8
    go_wp2
    go_returns
    exact ⟨rfl, Below.refl _ _⟩
  · have h1 : ¬ n < 1 := by omega
    go_enter Try.func8, Try.ntmps8
    go_wp2
    go_returns
    exact ⟨rfl, Below.refl _ _⟩
end Go.Proofs.Ytckmahgkeinggaa
