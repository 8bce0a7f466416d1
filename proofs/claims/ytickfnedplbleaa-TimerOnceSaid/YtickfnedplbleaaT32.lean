/- The law TimerOnce for whatever comes in, as the wrapper wants it. -/
import Derived.Test.YtickfnedplbleaaT31
namespace Go.Proofs.Ytickfnedplbleaa
open Go.RowKit

theorem once_many (a1 a2 : Option Addr) (n m c1 c2 : Nat) (w : World) (h : 60 < n) :
    Calls Try.prog 5 #[.slice a1 n c1, .slice a2 m c2] w fun x w' => x = .returned (.bool true) ∧ Below w.heap.size w w' := by
  have t1 : (60 : Int) < (n : Int) := by omega
  go_enter Try.func5, Try.ntmps5
  go_wp2_with (first | ((with_reducible refine (awake_any _).mono ?_); rintro ex w2 ⟨rfl, hb2⟩))
  go_returns
  exact ⟨rfl, hb2⟩
theorem once_less (a1 a2 : Option Addr) (n m c1 c2 : Nat) (w : World) (h0 : n ≤ 60) (h : m < n) :
    Calls Try.prog 5 #[.slice a1 n c1, .slice a2 m c2] w fun x w' => x = .returned (.bool true) ∧ Below w.heap.size w w' := by
  have t1 : ¬ (60 : Int) < (n : Int) := by omega
  have t2 : (m : Int) < (n : Int) := by omega
  go_enter Try.func5, Try.ntmps5
  go_wp2_with (first | ((with_reducible refine (awake_any _).mono ?_); rintro ex w2 ⟨rfl, hb2⟩))
  go_returns
  exact ⟨rfl, hb2⟩
theorem Bytes.fewer {w : World} {a : Option Addr} {n m : Nat} {xs : Nat → Nat} (h : Bytes w a m xs) (hn : n ≤ m) : Bytes w a n xs := fun k hk => h k (Nat.lt_of_lt_of_le hk hn)
theorem once_rows {W : World} (a1 : Option Addr) (n c1 : Nat) (z1 : List Int) (h1 : IsRow .u8 W a1 n c1 z1) (a2 : Option Addr) (m c2 : Nat) (z2 : List Int) (h2 : IsRow .u8 W a2 m c2 z2) :
    Calls Try.prog 5 #[.slice a1 n c1, .slice a2 m c2] W fun e w' => e = .returned (.bool true) ∧ Below W.heap.size W w' := by
  obtain ⟨xs, hx, l1, m1, b1⟩ := row_bytes h1
  obtain ⟨ys, hy, l2, m2, b2⟩ := row_bytes h2
  rcases Nat.lt_or_ge 60 n with h | h
  · exact once_many a1 a2 n m c1 c2 W h
  · rcases Nat.lt_or_ge m n with h' | h'
    · exact once_less a1 a2 n m c1 c2 W h h'
    · exact once_in W a1 n c1 xs hx (b1.fewer l1) a2 m c2 ys hy (b2.fewer l2) h h'
end Go.Proofs.Ytickfnedplbleaa
