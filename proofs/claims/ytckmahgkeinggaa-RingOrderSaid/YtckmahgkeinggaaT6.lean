/- The contracts of New and Pop of the package ring, where the bytes that go need not go round. -/
import Derived.Test.YtckmahgkeinggaaT5
namespace Go.Proofs.Ytckmahgkeinggaa
open Go.RowKit
attribute [local go_sem] cell_over frozen_over lt_over le_over ne_over over_ne cell_set_same softAt softUpon

theorem new_3 (w : World) : Calls Try.prog 8 #[.int .i64 3] w fun e w' => ∃ pr pc, e = .returned (.tuple #[.pointer (some ⟨pr, 0, none⟩), .int .i64 0]) ∧ Below w.heap.size w w' ∧ w.heap.size ≤ pr ∧ w.heap.size ≤ pc ∧ InMem w' pr pc 3 0 0 0 [.int .u8 0, .int .u8 0, .int .u8 0] := by
  obtain ⟨i0, hi, hz0, hz1, hz2⟩ := info_parts info5
  have hmk : (Instr.makeSlice 33 (.int .i64 3) (.int .i64 3)).run Try.prog w = .ok (.slice (some ⟨w.heap.size, 0, none⟩) 3 3) (w.alloc (.cells #[.int .u8 0, .int .u8 0, .int .u8 0] 5)) := by
    have := run_makeSlice (P := Try.prog) w 33 5 i0 (.int .u8 0) Try.underlying33 hi hz0 .i64 .i64 3 3 (by omega) (Int.le_refl _) (by rw [hz1]; decide) (by rw [hz2]; decide) (by omega)
    rw [hz1] at this
    rw [this]
    have hmc : madeCells (Value.cells (.int .u8 0)) (Int.toNat 3 * 1) = #[.int .u8 0, .int .u8 0, .int .u8 0] := by
      apply Array.ext
      · simp [size_madeCells]
      · intro i h1 h2
        have hi : i = 0 ∨ i = 1 ∨ i = 2 := by simp [size_madeCells] at h1; omega
        rcases hi with rfl | rfl | rfl <;> simp [madeCells, Value.cells]
    rw [hmc]
    rfl
  go_enter Try.func8, Try.ntmps8
  go_wp2
  go_returns
  refine ⟨w.heap.size + 1, w.heap.size, rfl, by go_grown, by omega, by omega, ?_⟩
  exact { ring := (blk_new (by simp)).trans rfl, cells := (blk_old (blk_new rfl)).trans rfl, len := rfl, ne := by omega, m1 := by decide, m2 := by decide, h0 := by decide, h1 := by decide, k0 := by decide, k1 := by decide }
theorem new_0 (w : World) : Calls Try.prog 8 #[.int .i64 0] w fun e w' => e = .returned (.tuple #[.pointer none, .int .i64 8]) ∧ Below w.heap.size w w' := by
  go_enter Try.func8, Try.ntmps8
  go_wp2
  go_returns
  exact ⟨rfl, Below.refl _ _⟩

theorem pop_flat {w : World} {pr pc m : Nat} {h k t : Int} {cur : List Value} (hm : InMem w pr pc m h k t cur) (n : Int) (a h' n' : Nat) (h1 : Bytes1 cur) (n1 : 1 ≤ n) (hh : (a : Int) = h) (hh' : (h' : Int) = (h + n') % m)
    (hn0 : 0 < n') (hn : (n' : Int) = if k < n then k else n) (hfit : a + n' ≤ m) :
    Calls Try.prog 10 #[.pointer (some ⟨pr, 0, none⟩), .int .i64 n] w fun e w' => ∃ pb, e = .returned (.slice (some ⟨pb, 0, none⟩) n' n') ∧ w.heap.size ≤ pb ∧ Touch w w' pr pc ∧ InMem w' pr pc m h' (k - n') t (put cur a (zeros n')) ∧ w'.heap[pb]? = some (.cells ((cur.drop a).take n').toArray 5 (0, 0)) := by
  have hkm := hm.k1
  have hp2 : (n' : Int) ≤ k := by rw [hn]; split <;> omega
  have P := peek_flat hm 0 n a n' h1 (Int.le_refl _) hm.k0 n1 (by rw [hh, Int.add_zero]; exact (Int.emod_eq_of_lt hm.h0 hm.h1).symm) hn0 (by rw [hn, Int.sub_zero]) hfit
  have D : ∀ W, InMem W pr pc m h k t cur → _ := fun W hW => drop_flat hW (n' : Int) a h' n' (by omega) hh hh' hn0 (by split <;> omega) hfit
  have HP := Lib.hid P
  have HD := Lib.hid D
  have HM := Lib.hid hm
  have lr := blk_lt hm.ring
  have lc := blk_lt hm.cells
  clear P D hm hn hh hh' hkm hp2
  go_enter Try.func10, Try.ntmps10
  go_wp2_with (first
    | ((with_reducible refine HP.out.mono ?_); refine unhalt ?_))
  unfold Halted
  rintro e w1 ⟨pb, rfl, hpb, hb, hout⟩
  have hT := (Touch.refl w pr pc).grow hb lr
  have hm1 := Lib.hid (HM.out.below hb)
  dsimp only
  go_wp2_with (first
    | ((with_reducible refine (HD.out _ hm1.out).mono ?_); refine unhalt ?_))
  unfold Halted
  rintro e w2 ⟨rfl, hT2, hm2⟩
  dsimp only
  go_wp2
  go_returns
  exact ⟨pb, rfl, hpb, ⟨fun B w0 h1 h2 h3 => hT2.below B w0 h1 h2 (hT.below B w0 h1 h2 h3), fun b o h1 h2 h3 => hT2.other b o h1 h2 (hT.other b o h1 h2 h3)⟩, hm2, hT2.other pb _ (by omega) (by omega) hout⟩
end Go.Proofs.Ytckmahgkeinggaa
