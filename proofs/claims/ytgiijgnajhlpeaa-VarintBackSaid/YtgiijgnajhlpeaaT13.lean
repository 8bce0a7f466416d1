/- The law VarintGets: any bytes begin with the number, and are the numbers, that the document says, or none. -/
import Derived.Test.YtgiijgnajhlpeaaT12
namespace Go.Proofs.Ytgiijgnajhlpeaa
open Go.RowKit
attribute [local go_sem] cell_over frozen_over lt_over le_over ne_over over_ne cell_set_same softAt softUpon lightUpon heavyUpon cell_kept frozen_kept

def AllIs2 (w : World) (l : List UInt8) (e : Ending) (w' : World) : Prop := Below w.heap.size w w' ∧ ∃ a c, e = .returned (.tuple #[.slice a (allP l).1.length c, .int .i64 ((allP l).2 : Nat)]) ∧ IntsIn w' a ((allP l).1.map fun (n : Nat) => (n : Int))
theorem all_d (l : List UInt8) (w : World) (hl : l.length ≤ 1000) : Calls Try.prog 16 #[.string ⟨l.toArray⟩] w (AllIs2 w l) := (all_any l w hl).mono fun e w' ⟨hb, v, he, hr⟩ => by
  obtain ⟨a, c, rfl, hi⟩ := hr.ints
  exact ⟨hb, a, c, he, hi⟩
theorem refall_d (l : List UInt8) (w : World) (hl : l.length ≤ 1000) : Calls Try.prog 17 #[.string ⟨l.toArray⟩] w (AllIs2 w l) := (refall_any l w hl).mono fun e w' ⟨hb, v, he, hr⟩ => by
  obtain ⟨a, c, rfl, hi⟩ := hr.ints
  exact ⟨hb, a, c, he, hi⟩

set_option maxRecDepth 100000 in
set_option maxHeartbeats 4000000 in
theorem gets_any (l : List UInt8) (w : World) : Calls Try.prog 4 #[.string ⟨l.toArray⟩] w fun e w' => e = .returned (.bool true) ∧ Below w.heap.size w w' := by
  by_cases hlen : 100 < l.length
  · have h1 : (l.length : Int) > 100 := by omega
    go_enter Try.func4, Try.ntmps4
    go_wp2_with (first | ((with_reducible refine (awake_any _).mono ?_); rintro e w1 ⟨rfl, hb⟩))
    go_returns
    exact ⟨rfl, hb⟩
  · have h1 : ¬ (l.length : Int) > 100 := by omega
    have G1 := Lib.hid (fun W => get_any l W (by omega))
    have G2 := Lib.hid (fun W => refget_any l W (by omega))
    unfold GetIs at G1 G2
    go_enter Try.func4, Try.ntmps4
    go_wp2_with (first
      | ((with_reducible refine (G1.out _).mono ?_); rintro e w1 ⟨rfl, B1⟩)
      | ((with_reducible refine (G2.out _).mono ?_); rintro e w2 ⟨rfl, hb⟩; have B2 := bt B1 hb; clear hb)
      | ((with_reducible refine (all_d l _ (by omega)).mono ?_); refine unhalt ?_))
    unfold Halted
    rintro e w3 ⟨hb, a3, c3, rfl, hi⟩
    have B3 := bt B2 hb
    have I3 := Lib.hid hi
    clear hi hb B1 B2
    dsimp only
    go_wp2_with (first | ((with_reducible refine (refall_d l _ (by omega)).mono ?_); refine unhalt ?_))
    unfold Halted
    rintro e w4 ⟨hb, a4, c4, rfl, hi⟩
    have B4 := bt B3 hb
    have I4 := Lib.hid hi
    have I5 := Lib.hid (I3.out.below hb)
    have hll := all_len l
    have S := fun W h1 h2 => same_any a3 a4 (allP l).1.length c3 c4 ((allP l).1.map fun (n : Nat) => (n : Int)) W h1 h2 (by simp) (by omega)
    have HS := Lib.hid S
    clear hi hb B3 I3 G1 G2 S
    dsimp only
    generalize (allP l).1.length = ln at *
    generalize (allP l).2 = er at *
    generalize (getP l).1 = g1 at *
    generalize (getP l).2.1 = g2 at *
    generalize (getP l).2.2 = g3 at *
    go_wp2_with (first
      | ((with_reducible refine (HS.out _ I5.out I4.out).mono ?_); rintro e w5 ⟨rfl, hb⟩; have B5 := bt B4 hb; clear hb)
      | ((with_reducible refine (awake_any _).mono ?_); rintro e w7 ⟨rfl, hb⟩; have B7 := bt B5 hb; clear hb))
    go_returns
    exact ⟨rfl, B7⟩

theorem list_of (S : ByteArray) : ∃ l : List UInt8, S = ⟨l.toArray⟩ := ⟨S.data.toList, by simp⟩
theorem gets_raw {W : World} (S : ByteArray) (_ : S.size ≤ maxLen) : Calls Try.prog 4 #[.string S] W fun e w' => e = .returned (.bool true) ∧ Below W.heap.size W w' := by
  obtain ⟨l, rfl⟩ := list_of S
  exact gets_any l W
end Go.Proofs.Ytgiijgnajhlpeaa
