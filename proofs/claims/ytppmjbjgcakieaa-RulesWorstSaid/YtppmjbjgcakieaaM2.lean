/- The law RulesWorst returns true, and leaves all memory that stood before as it was: whatever bytes come in. No conditions. -/
import Derived.Test.YtppmjbjgcakieaaM
namespace Go.Proofs.Ytppmjbjgcakieaa
open Go.RowKit

theorem byte_num {a : Int} (h : (Lit.int .u8 a).wf = true) : ∃ n : Nat, a = n ∧ n ≤ 255 := by
  have hx : 0 ≤ a ∧ a ≤ 255 := by simpa [Lit.wf, IntKind.min, IntKind.max, IntKind.signed, IntKind.bits] using h
  exact ⟨a.toNat, by omega, by omega⟩

set_option maxHeartbeats 400000 in
theorem worstlaw_many (a1 a2 : Option Addr) (n m c1 c2 : Nat) (cut : Int) (w : World) (h60 : 60 < n) :
    Calls Try.prog 5 #[.slice a1 n c1, .slice a2 m c2, .int .u8 cut] w fun e w' => e = .returned (.bool true) ∧ Below w.heap.size w w' := by
  have t1 : (60 : Int) < (n : Int) := by omega
  go_enter Try.func5, Try.ntmps5
  go_wp2_with ((with_reducible refine (awake_any _).mono ?_); rintro e w2 ⟨rfl, hb2⟩)
  go_ret
  exact ⟨rfl, hb2⟩

set_option maxHeartbeats 400000 in
theorem worstlaw_few (a1 a2 : Option Addr) (n m c1 c2 : Nat) (cut : Int) (w : World) (h60 : n ≤ 60) (hm : m < n) :
    Calls Try.prog 5 #[.slice a1 n c1, .slice a2 m c2, .int .u8 cut] w fun e w' => e = .returned (.bool true) ∧ Below w.heap.size w w' := by
  have t1 : ¬ (60 : Int) < (n : Int) := by omega
  have t2 : (m : Int) < (n : Int) := by omega
  go_enter Try.func5, Try.ntmps5
  go_wp2_with ((with_reducible refine (awake_any _).mono ?_); rintro e w2 ⟨rfl, hb2⟩)
  go_ret
  exact ⟨rfl, hb2⟩


theorem worstlaw_rows (w : World) (a1 : Option Addr) (n c1 : Nat) (z1 : List Int) (h1 : IsRow .u8 w a1 n c1 z1) (a2 : Option Addr) (m c2 : Nat) (z2 : List Int) (h2 : IsRow .u8 w a2 m c2 z2) (cut : Int) (hc : (Lit.int .u8 cut).wf = true) :
    Calls Try.prog 5 #[.slice a1 n c1, .slice a2 m c2, .int .u8 cut] w fun e w' => e = .returned (.bool true) ∧ Below w.heap.size w w' := by
  obtain ⟨k, rfl, hk⟩ := byte_num hc
  obtain ⟨xs, _, l1, m1, b1⟩ := row_bytes h1
  obtain ⟨ys, _, l2, m2, b2⟩ := row_bytes h2
  rcases Nat.lt_or_ge 60 n with h | h
  · exact worstlaw_many a1 a2 n m c1 c2 k w h
  · rcases Nat.lt_or_ge m n with h' | h'
    · exact worstlaw_few a1 a2 n m c1 c2 k w h h'
    · exact worstlaw_in a1 a2 n m c1 c2 k _ xs ys w b1 b2 l1 l2 m1 m2 h h' hk rfl
end Go.Proofs.Ytppmjbjgcakieaa
