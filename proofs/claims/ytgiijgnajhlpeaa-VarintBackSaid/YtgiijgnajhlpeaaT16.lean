/- The law VarintBack for whatever comes in. -/
import Derived.Test.YtgiijgnajhlpeaaT15
namespace Go.Proofs.Ytgiijgnajhlpeaa
open Go.RowKit
attribute [local go_sem] cell_over frozen_over lt_over le_over ne_over over_ne cell_set_same softAt softUpon lightUpon heavyUpon cell_kept frozen_kept

set_option maxRecDepth 100000 in
theorem back_many (a : Option Addr) (n c : Nat) (t : List UInt8) (w : World) (h : 40 < n ∨ 20 < t.length) : Calls Try.prog 5 #[.slice a n c, .string ⟨t.toArray⟩] w fun e w' => e = .returned (.bool true) ∧ Below w.heap.size w w' := by
  rcases Nat.lt_or_ge 40 n with h1 | h1
  · have e1 : (n : Int) > 40 := by omega
    clear h
    go_enter Try.func5, Try.ntmps5
    go_wp2_with (first | ((with_reducible refine (awake_any _).mono ?_); rintro e w2 ⟨rfl, hb⟩))
    go_returns
    exact ⟨rfl, hb⟩
  · have e1 : ¬ (n : Int) > 40 := by omega
    have e2 : (t.length : Int) > 20 := by omega
    clear h
    go_enter Try.func5, Try.ntmps5
    go_wp2_with (first | ((with_reducible refine (awake_any _).mono ?_); rintro e w2 ⟨rfl, hb⟩))
    go_returns
    exact ⟨rfl, hb⟩

theorem IsRow.us {w : World} {a : Option Addr} {len cap : Nat} {zs : List Int} (h : IsRow .u64 w a len cap zs) : ∃ us, UsIn w a us ∧ us.length = len := by
  rcases h with ⟨rfl, rfl, rfl, rfl⟩ | ⟨x, rfl, hl, _, hz, hc, hw⟩
  · exact ⟨[], fun i z hi => by simp at hi, rfl⟩
  · refine ⟨(zs.take len).map Int.toNat, fun i u hi => ?_, by rw [List.length_map, List.length_take]; omega⟩
    rw [List.getElem?_map] at hi
    obtain ⟨z, hz2, rfl⟩ := Option.map_eq_some_iff.1 hi
    have hil : i < len := by
      have := (List.getElem?_eq_some_iff.1 hz2).1
      rw [List.length_take] at this
      omega
    rw [List.getElem?_take_of_lt hil] at hz2
    have hwf : 0 ≤ z ∧ z ≤ 18446744073709551615 := by
      have := hw z (List.mem_of_getElem? hz2)
      simpa [Lit.wf, IntKind.min, IntKind.max, IntKind.signed, IntKind.bits] using this
    obtain ⟨b, o, rfl, hcell⟩ := row_some hc (by omega)
    exact ⟨by omega, b, o, rfl, by rw [Int.toNat_of_nonneg hwf.1]; exact hcell i z hz2⟩

theorem back_raw {W : World} (a : Option Addr) (len c : Nat) (zs : List Int) (h : IsRow .u64 W a len c zs) (S : ByteArray) (_ : S.size ≤ maxLen) : Calls Try.prog 5 #[.slice a len c, .string S] W fun e w' => e = .returned (.bool true) ∧ Below W.heap.size W w' := by
  obtain ⟨t, rfl⟩ := list_of S
  obtain ⟨us, hu, hl⟩ := h.us
  by_cases hm : 40 < len ∨ 20 < t.length
  · exact back_many a len c t W hm
  · exact back_any a len c us t W hu hl (by omega) (by omega)
end Go.Proofs.Ytgiijgnajhlpeaa
