/- The law RingOrder for whatever comes in. -/
import Derived.Test.YtckmahgkeinggaaT25
namespace Go.Proofs.Ytckmahgkeinggaa
open Go.RowKit Go.ChangeShapes Go.WideShapes Go.ChangeAt
attribute [local go_sem] cell_over frozen_over lt_over le_over ne_over over_ne cell_set_same softAt softUpon

set_option maxRecDepth 100000 in
theorem order_many (w : World) (rb : Int) (a1 : Option Addr) (n c1 : Nat) (a2 : Option Addr) (n2 c2 : Nat) (h : 80 < n ∨ 80 < n2) :
    Calls Try.prog 5 #[.int .u16 rb, .slice a1 n c1, .slice a2 n2 c2] w fun e w' => e = .returned (.bool true) ∧ Below w.heap.size w w' := by
  rcases Nat.lt_or_ge 80 n with h1 | h1
  · have e1 : (n : Int) > 80 := by omega
    clear h
    go_enter Try.func5, Try.ntmps5
    go_wp2_with (first
      | ((with_reducible refine (awake_any _).mono ?_); rintro e w2 ⟨rfl, hb⟩))
    go_returns
    exact ⟨rfl, hb⟩
  · have e1 : ¬ (n : Int) > 80 := by omega
    have e2 : (n2 : Int) > 80 := by omega
    clear h
    go_enter Try.func5, Try.ntmps5
    go_wp2_with (first
      | ((with_reducible refine (awake_any _).mono ?_); rintro e w2 ⟨rfl, hb⟩))
    go_returns
    exact ⟨rfl, hb⟩

theorem order_raw {H : Type} {enc : TypeId × Value → H} {W : World} {base b1 : Nat} {r1 : Reach} (room : Int) (hr : (Lit.int .u16 room).wf = true)
    (v1 : Value) (d1 : DataW H) (p1 : List MemPlace) (hv1 : Value.okWide Try.prog W r1 b1 48 v1) (h1 : DataW.Trod enc Try.prog W base (fun _ => true) true 48 v1 d1 p1)
    (a2 : Option Addr) (n2 c2 : Nat) (z2 : List Int) (h2 : IsRow .u8 W a2 n2 c2 z2) :
    Calls Try.prog 5 #[.int .u16 room, v1, .slice a2 n2 c2] W fun e w' => e = .returned (.bool true) ∧ Below W.heap.size W w' := by
  obtain ⟨a, n, c, f, rfl, hf⟩ := rows_in hv1 h1
  obtain ⟨l2, k2⟩ := h2.came
  have hr2 : 0 ≤ room ∧ room ≤ 65535 := by simpa [Lit.wf, IntKind.min, IntKind.max, IntKind.signed, IntKind.bits] using hr
  obtain ⟨rb, rfl⟩ : ∃ rb : Nat, room = rb := ⟨room.toNat, by omega⟩
  by_cases hn : 80 < n ∨ 80 < n2
  · exact order_many W rb a n c a2 n2 c2 hn
  · exact order_in W rb (by omega) a n c f hf a2 n2 c2 l2 k2 (by omega) (by omega)
end Go.Proofs.Ytckmahgkeinggaa
