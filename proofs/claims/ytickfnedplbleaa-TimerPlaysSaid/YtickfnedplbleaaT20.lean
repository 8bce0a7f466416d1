/- The contract of Same of equal items. -/
import Derived.Test.YtickfnedplbleaaT19
namespace Go.Proofs.Ytickfnedplbleaa
open Go.RowKit
attribute [local go_sem] cell_over frozen_over lt_over le_over ne_over over_ne cell_set_same softAt softUpon lightUpon heavyUpon cell_kept frozen_kept

theorem ritems_slice {w : World} {B : Nat} {o : Value} {l : List It} (h : RItems w B o l) : ∃ a c, o = .slice a l.length c := by
  rcases h.2 with ⟨h1, h2⟩ | ⟨g, cap, cur, h1, _⟩
  · exact ⟨none, 0, by rw [h1, h2]⟩
  · exact ⟨_, _, h1⟩
set_option maxHeartbeats 2000000 in
theorem same_eq {w : World} {B B' : Nat} {o o' : Value} {l : List It} (h : RItems w B o l) (h' : RItems w B' o' l) (hlen : l.length ≤ 64) : Calls Try.prog 13 #[o, o'] w fun e w' => e = .returned (.bool true) ∧ Below w.heap.size w w' := by
  obtain ⟨a, c, rfl⟩ := ritems_slice h
  obtain ⟨a', c', rfl⟩ := ritems_slice h'
  have HH := Lib.hid h
  have HH' := Lib.hid h'
  clear h h'
  go_enter Try.func13, Try.ntmps13
  go_wp2
  go_loopw [5] (fun i wr => ∃ k : Nat, k ≤ l.length ∧ i = .int .i64 (k : Int) ∧ Below w.heap.size w wr) (fun i _ => l.length - (intOf i).toNat)
  case atStart => exact ⟨0, Nat.zero_le _, rfl, Below.refl _ _⟩
  case round =>
    obtain ⟨k, hk, rfl, hB⟩ := hrel
    by_cases hlt : k < l.length
    · obtain ⟨x, hx⟩ : ∃ x, l[k]? = some x := ⟨_, List.getElem?_eq_getElem hlt⟩
      have hr := own_below HH.out hB
      have hr' := own_below HH'.out hB
      rcases hr.2 with ⟨_, h0⟩ | ⟨g, cap, cur, e, hg, hh, _⟩
      · omega
      · cases e
        rcases hr'.2 with ⟨_, h0⟩ | ⟨g', cap', cur', e', hg', hh', _⟩
        · omega
        · cases e'
          obtain ⟨c1, c2⟩ := row_cells2 hr rfl hx
          obtain ⟨c3, c4⟩ := row_cells2 hr' rfl hx
          have i0' : (0 : Int) ≤ (k : Int) := by omega
          have i1 : (k : Int) < l.length := by omega
          clear hx hr hh hr' hh'
          go_wp2
          go_region
          all_goals
            go_wp2
            go_roundw
            case rel => exact ⟨k + 1, by omega, by go_num, hB.drew⟩
            case measure => simp [intOf]; omega
    · obtain rfl : k = l.length := by omega
      go_wp2
      go_returns
      exact ⟨rfl, hB⟩
end Go.Proofs.Ytickfnedplbleaa
