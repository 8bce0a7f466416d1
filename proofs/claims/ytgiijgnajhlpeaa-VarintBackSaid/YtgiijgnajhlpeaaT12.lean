/- The law VarintPuts: any number has the bytes that the document says, and so have any numbers. -/
import Derived.Test.YtgiijgnajhlpeaaT11
namespace Go.Proofs.Ytgiijgnajhlpeaa
open Go.RowKit
attribute [local go_sem] cell_over frozen_over lt_over le_over ne_over over_ne cell_set_same softAt softUpon lightUpon heavyUpon cell_kept frozen_kept

def putR (n : Int) : List UInt8 × Int := if badN n then ([], 8) else (putB n.toNat, 0)
def PutAny (w : World) (n : Int) (e : Ending) (w' : World) : Prop := Below w.heap.size w w' ∧ ∃ v, e = .returned (.tuple #[v, .int .i64 (putR n).2]) ∧ Row w' w.heap.size v (putR n).1
theorem put_any (n : Int) (w : World) : Calls Try.prog 8 #[.int .i64 n] w (PutAny w n) := by
  by_cases h : badN n
  · have hr : putR n = ([], 8) := by unfold putR; rw [if_pos h]
    refine (put_none n w h).mono ?_
    rintro e w' ⟨rfl, hb⟩
    exact ⟨hb, .slice none 0 0, by rw [hr], by rw [hr]; exact row_nil _ _⟩
  · obtain ⟨m, rfl⟩ : ∃ m : Nat, n = m := ⟨n.toNat, by unfold badN at h; omega⟩
    have hr : putR m = (putB m, 0) := by unfold putR; rw [if_neg h, Int.toNat_natCast]
    refine (put_some m w (by unfold badN at h; omega)).mono ?_
    rintro e w' ⟨v, rfl, hb, hrow⟩
    exact ⟨hb, v, by rw [hr], by rw [hr]; exact hrow⟩
theorem refput_any (n : Int) (w : World) : Calls Try.prog 9 #[.int .i64 n] w (PutAny w n) := by
  by_cases h : badN n
  · have hr : putR n = ([], 8) := by unfold putR; rw [if_pos h]
    refine (refput_none n w h).mono ?_
    rintro e w' ⟨rfl, hb⟩
    exact ⟨hb, .slice none 0 0, by rw [hr], by rw [hr]; exact row_nil _ _⟩
  · obtain ⟨m, rfl⟩ : ∃ m : Nat, n = m := ⟨n.toNat, by unfold badN at h; omega⟩
    have hr : putR m = (putB m, 0) := by unfold putR; rw [if_neg h, Int.toNat_natCast]
    refine (refput_some m w (by unfold badN at h; omega)).mono ?_
    rintro e w' ⟨v, rfl, hb, hrow⟩
    exact ⟨hb, v, by rw [hr], by rw [hr]; exact hrow⟩

set_option maxRecDepth 100000 in
set_option maxHeartbeats 4000000 in
theorem puts_any (n : Int) (a : Option Addr) (len c : Nat) (zs : List Int) (w : World) (hz : IntsIn w a zs) (hl : zs.length = len) : Calls Try.prog 3 #[.int .i64 n, .slice a len c] w fun e w' => e = .returned (.bool true) ∧ Below w.heap.size w w' := by
  by_cases hlen : 40 < len
  · have h1 : (len : Int) > 40 := by omega
    clear hl
    go_enter Try.func3, Try.ntmps3
    go_wp2_with (first | ((with_reducible refine (awake_any _).mono ?_); rintro e w1 ⟨rfl, hb⟩))
    go_returns
    exact ⟨rfl, hb⟩
  · have h1 : ¬ (len : Int) > 40 := by omega
    have HZ := Lib.hid hz
    have HL := Lib.hid hl
    clear hz hl
    go_enter Try.func3, Try.ntmps3
    go_wp2_with (first | ((with_reducible refine (put_any n _).mono ?_); refine unhalt ?_))
    unfold Halted
    rintro e w1 ⟨B1, v1, rfl, hr⟩
    have R1 := Lib.hid hr
    clear hr
    dsimp only
    go_wp2_with (first | ((with_reducible refine (refput_any n _).mono ?_); refine unhalt ?_))
    unfold Halted
    rintro e w2 ⟨hb, v2, rfl, hr⟩
    have B2 := bt B1 hb
    have R2 := Lib.hid hr
    have Q1 := Lib.hid (R1.out.below hb)
    clear hr hb B1 R1
    dsimp only
    go_wp2_with (first | ((with_reducible refine (join_top a len c zs _ (HZ.out.below B2) HL.out (by omega)).mono ?_); refine unhalt ?_))
    unfold Halted
    rintro e w3 ⟨hb, v3, rfl, hr⟩
    have B3 := bt B2 hb
    have R3 := Lib.hid hr
    have P1 := Lib.hid (Q1.out.below hb)
    have P2 := Lib.hid (R2.out.below hb)
    clear hr hb B2 R2 Q1
    dsimp only
    go_wp2_with (first | ((with_reducible refine (refjoin_any a len c zs _ (HZ.out.below B3) HL.out (by omega)).mono ?_); refine unhalt ?_))
    unfold Halted
    rintro e w4 ⟨hb, v4, rfl, hr⟩
    have B4 := bt B3 hb
    have q1 := (P1.out.below hb).conv
    have q2 := (P2.out.below hb).conv
    have q3 := (R3.out.below hb).conv
    have q4 := hr.conv
    clear hr hb B3 R3 P1 P2
    dsimp only
    generalize (putR n).1 = l1 at *
    generalize (putR n).2 = x1 at *
    generalize (joinR zs).1 = l2 at *
    generalize (joinR zs).2 = x2 at *
    go_wp2_with (first
      | ((with_reducible refine (size_any n _).mono ?_); rintro e w5 ⟨rfl, hb⟩; have B5 := bt B4 hb; clear hb q1 q2 q3 q4)
      | ((with_reducible refine (refsize_any n _).mono ?_); rintro e w6 ⟨rfl, hb⟩; have B6 := bt B5 hb; clear hb)
      | ((with_reducible refine (awake_any _).mono ?_); rintro e w7 ⟨rfl, hb⟩; have B7 := bt B6 hb; clear hb))
    go_returns
    exact ⟨rfl, B7⟩

/-- A slice of integers that came in: nil, or a row of cells. -/
def IsRow (k : IntKind) (w : World) (a : Option Addr) (len cap : Nat) (zs : List Int) : Prop :=
  (a = none ∧ len = 0 ∧ cap = 0 ∧ zs = []) ∨
  ∃ x, a = some x ∧ len ≤ cap ∧ cap ≤ maxLen ∧ zs.length = cap ∧ (∀ i, i < zs.length → w.cell? (x.add i) = some (.int k (zs.getD i 0))) ∧ ∀ n ∈ zs, (Lit.int k n).wf = true

theorem row_some {w : World} {x : Addr} {k : IntKind} {zs : List Int} (hc : ∀ i, i < zs.length → w.cell? (x.add i) = some (.int k (zs.getD i 0))) (h0 : 0 < zs.length) : ∃ b o, x = ⟨b, o, none⟩ ∧ ∀ i z, zs[i]? = some z → w.cell? ⟨b, o + i, none⟩ = some (.int k z) := by
  have h00 := hc 0 h0
  have hx : x.add 0 = x := by simp [Addr.add]
  rw [hx] at h00
  have hs : x.spot = none := by
    cases hsp : x.spot with
    | none => rfl
    | some s =>
      simp only [World.cell?, hsp] at h00
      split at h00 <;> simp_all
  obtain ⟨b, o, s⟩ := x
  simp only at hs
  subst hs
  refine ⟨b, o, rfl, fun i z hi => ?_⟩
  obtain ⟨hil, hz⟩ := List.getElem?_eq_some_iff.1 hi
  have h1 := hc i hil
  have e : (⟨b, o, none⟩ : Addr).add i = ⟨b, o + i, none⟩ := by unfold Addr.add; split <;> simp_all
  rw [e, List.getD_eq_getElem?_getD, hi] at h1
  exact h1
theorem IsRow.ints {w : World} {a : Option Addr} {len cap : Nat} {zs : List Int} (h : IsRow .i64 w a len cap zs) : ∃ ys, IntsIn w a ys ∧ ys.length = len := by
  rcases h with ⟨rfl, rfl, rfl, rfl⟩ | ⟨x, rfl, hl, _, hz, hc, _⟩
  · exact ⟨[], fun i z hi => by simp at hi, rfl⟩
  · refine ⟨zs.take len, fun i z hi => ?_, by rw [List.length_take]; omega⟩
    have hil : i < len := by
      have := (List.getElem?_eq_some_iff.1 hi).1
      rw [List.length_take] at this
      omega
    rw [List.getElem?_take_of_lt hil] at hi
    obtain ⟨b, o, rfl, hcell⟩ := row_some hc (by omega)
    exact ⟨b, o, rfl, hcell i z hi⟩
theorem puts_raw {W : World} (n : Int) (_ : (Lit.int .i64 n).wf = true) (a : Option Addr) (len c : Nat) (zs : List Int) (h : IsRow .i64 W a len c zs) : Calls Try.prog 3 #[.int .i64 n, .slice a len c] W fun e w' => e = .returned (.bool true) ∧ Below W.heap.size W w' := by
  obtain ⟨ys, hy, hl⟩ := h.ints
  exact puts_any n a len c ys W hy hl
end Go.Proofs.Ytgiijgnajhlpeaa
