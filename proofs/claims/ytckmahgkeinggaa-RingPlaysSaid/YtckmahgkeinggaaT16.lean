/- The contract of Pop of the package ring by what stands there. -/
import Derived.Test.YtckmahgkeinggaaT15
namespace Go.Proofs.Ytckmahgkeinggaa
open Go.RowKit
attribute [local go_sem] cell_over frozen_over lt_over le_over ne_over over_ne cell_set_same softAt softUpon

theorem look_go {l : List Value} {n : Int} : goV l ((lookV l 0 n).length : Int) = (lookV l 0 n).length := by
  have h1 : (lookV l 0 n).length ≤ l.length := by
    unfold lookV
    split
    · exact Nat.zero_le _
    · simp; omega
  generalize (lookV l 0 n).length = x at *
  unfold goV
  split
  · omega
  · split <;> omega

theorem Touch.trans {a b c : World} {pr pc : Nat} (h : Touch a b pr pc) (k : Touch b c pr pc) : Touch a c pr pc :=
  ⟨fun B w0 h1 h2 h3 => k.below B w0 h1 h2 (h.below B w0 h1 h2 h3), fun b o h1 h2 h3 => k.other b o h1 h2 (h.other b o h1 h2 h3)⟩

theorem RingIs.lt {w : World} {pr pc m : Nat} {t : Int} {l : List Value} (h : RingIs w pr pc m t l) : pr < w.heap.size ∧ pc < w.heap.size := by
  obtain ⟨_, _, _, hm, _⟩ := h.is
  exact ⟨blk_lt hm.ring, blk_lt hm.cells⟩

theorem pop_is {w : World} {pr pc m : Nat} {t : Int} {l : List Value} (hr : RingIs w pr pc m t l) (n : Int) :
    Calls Try.prog 10 #[.pointer (some ⟨pr, 0, none⟩), .int .i64 n] w fun e w' => Touch w w' pr pc ∧ RingIs w' pr pc m t (l.drop (lookV l 0 n).length) ∧
      ((e = .returned (.slice none 0 0) ∧ lookV l 0 n = []) ∨ ∃ pb, e = .returned (.slice (some ⟨pb, 0, none⟩) (lookV l 0 n).length (lookV l 0 n).length) ∧ w.heap.size ≤ pb ∧ w'.heap[pb]? = some (.cells (lookV l 0 n).toArray 5 (0, 0))) := by
  have P := peek_is hr 0 n
  have D : ∀ W, RingIs W pr pc m t l → _ := fun W hW => drop_is hW ((lookV l 0 n).length : Int)
  rw [look_go] at D
  have HP := Lib.hid P
  have HD := Lib.hid D
  have HR := Lib.hid hr
  obtain ⟨lr, lc⟩ := hr.lt
  clear P D hr
  generalize hq : lookV l 0 n = out at *
  have HQ := Lib.hid hq
  clear hq
  go_enter Try.func10, Try.ntmps10
  go_wp2_with (first
    | ((with_reducible refine HP.out.mono ?_); refine unhalt ?_))
  unfold Halted
  rintro e w1 ⟨hb, hres⟩
  have hT := (Touch.refl w pr pc).grow hb lr
  have R1 := Lib.hid (HR.out.below hb)
  rcases hres with ⟨rfl, rfl⟩ | ⟨pb, rfl, hp, hh⟩
  · have HD0 := Lib.hid (fun W hW => (show Calls Try.prog 12 #[.pointer (some ⟨pr, 0, none⟩), .int .i64 0] W _ from HD.out W hW))
    dsimp only
    go_wp2_with (first
      | ((with_reducible refine (HD0.out _ R1.out).mono ?_); refine unhalt ?_))
    unfold Halted
    rintro e w2 ⟨rfl⟩
    rintro hT2 hr2
    dsimp only
    go_wp2
    go_returns
    exact ⟨hT.trans hT2, hr2, .inl rfl⟩
  · dsimp only
    go_wp2_with (first
      | ((with_reducible refine (HD.out _ R1.out).mono ?_); refine unhalt ?_))
    unfold Halted
    rintro e w2 ⟨rfl, hT2, hr2⟩
    dsimp only
    go_wp2
    go_returns
    exact ⟨hT.trans hT2, hr2, .inr ⟨pb, rfl, hp, hT2.other pb _ (by omega) (by omega) hh⟩⟩
end Go.Proofs.Ytckmahgkeinggaa
