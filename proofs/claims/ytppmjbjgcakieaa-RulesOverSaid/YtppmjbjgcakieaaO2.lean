/- The law RulesOver returns true whatever the two bytes: all remainders together. No conditions. -/
import Derived.Test.YtppmjbjgcakieaaO
namespace Go.Proofs.Ytppmjbjgcakieaa
open Go.RowKit

theorem byte_nat {a : Int} (h : (Lit.int .u8 a).wf = true) : ∃ n : Nat, a = n ∧ n ≤ 255 := by
  have hx : 0 ≤ a ∧ a ≤ 255 := by simpa [Lit.wf, IntKind.min, IntKind.max, IntKind.signed, IntKind.bits] using h
  exact ⟨a.toNat, by omega, by omega⟩

theorem over_all (a : Int) (ha : (Lit.int .u8 a).wf = true) (b : Int) (hb : (Lit.int .u8 b).wf = true) (w : World) :
    Calls Try.prog 4 #[.int .u8 a, .int .u8 b] w fun e w' => e = .returned (.bool true) ∧ Below w.heap.size w w' := by
  obtain ⟨k, rfl, hk⟩ := byte_nat ha
  obtain ⟨c, rfl, hc⟩ := byte_nat hb
  have h1 : (k : Int) % 11 = 0 ∨ (k : Int) % 11 = 1 ∨ (k : Int) % 11 = 2 ∨ (k : Int) % 11 = 3 ∨ (k : Int) % 11 = 4 ∨ (k : Int) % 11 = 5 ∨ (k : Int) % 11 = 6 ∨ (k : Int) % 11 = 7 ∨ (k : Int) % 11 = 8 ∨ (k : Int) % 11 = 9 ∨ (k : Int) % 11 = 10 := by omega
  have h2 : (c : Int) % 7 = 0 ∨ (c : Int) % 7 = 1 ∨ (c : Int) % 7 = 2 ∨ (c : Int) % 7 = 3 ∨ (c : Int) % 7 = 4 ∨ (c : Int) % 7 = 5 ∨ (c : Int) % 7 = 6 := by omega
  rcases h1 with h1 | h1 | h1 | h1 | h1 | h1 | h1 | h1 | h1 | h1 | h1 <;> rcases h2 with h2 | h2 | h2 | h2 | h2 | h2 | h2
  · exact over_0_0 k c hk hc w h1 h2
  · exact over_0_1 k c hk hc w h1 h2
  · exact over_0_2 k c hk hc w h1 h2
  · exact over_0_3 k c hk hc w h1 h2
  · exact over_0_4 k c hk hc w h1 h2
  · exact over_0_5 k c hk hc w h1 h2
  · exact over_0_6 k c hk hc w h1 h2
  · exact over_1_0 k c hk hc w h1 h2
  · exact over_1_1 k c hk hc w h1 h2
  · exact over_1_2 k c hk hc w h1 h2
  · exact over_1_3 k c hk hc w h1 h2
  · exact over_1_4 k c hk hc w h1 h2
  · exact over_1_5 k c hk hc w h1 h2
  · exact over_1_6 k c hk hc w h1 h2
  · exact over_2_0 k c hk hc w h1 h2
  · exact over_2_1 k c hk hc w h1 h2
  · exact over_2_2 k c hk hc w h1 h2
  · exact over_2_3 k c hk hc w h1 h2
  · exact over_2_4 k c hk hc w h1 h2
  · exact over_2_5 k c hk hc w h1 h2
  · exact over_2_6 k c hk hc w h1 h2
  · exact over_3_0 k c hk hc w h1 h2
  · exact over_3_1 k c hk hc w h1 h2
  · exact over_3_2 k c hk hc w h1 h2
  · exact over_3_3 k c hk hc w h1 h2
  · exact over_3_4 k c hk hc w h1 h2
  · exact over_3_5 k c hk hc w h1 h2
  · exact over_3_6 k c hk hc w h1 h2
  · exact over_4_0 k c hk hc w h1 h2
  · exact over_4_1 k c hk hc w h1 h2
  · exact over_4_2 k c hk hc w h1 h2
  · exact over_4_3 k c hk hc w h1 h2
  · exact over_4_4 k c hk hc w h1 h2
  · exact over_4_5 k c hk hc w h1 h2
  · exact over_4_6 k c hk hc w h1 h2
  · exact over_5_0 k c hk hc w h1 h2
  · exact over_5_1 k c hk hc w h1 h2
  · exact over_5_2 k c hk hc w h1 h2
  · exact over_5_3 k c hk hc w h1 h2
  · exact over_5_4 k c hk hc w h1 h2
  · exact over_5_5 k c hk hc w h1 h2
  · exact over_5_6 k c hk hc w h1 h2
  · exact over_6_0 k c hk hc w h1 h2
  · exact over_6_1 k c hk hc w h1 h2
  · exact over_6_2 k c hk hc w h1 h2
  · exact over_6_3 k c hk hc w h1 h2
  · exact over_6_4 k c hk hc w h1 h2
  · exact over_6_5 k c hk hc w h1 h2
  · exact over_6_6 k c hk hc w h1 h2
  · exact over_7_0 k c hk hc w h1 h2
  · exact over_7_1 k c hk hc w h1 h2
  · exact over_7_2 k c hk hc w h1 h2
  · exact over_7_3 k c hk hc w h1 h2
  · exact over_7_4 k c hk hc w h1 h2
  · exact over_7_5 k c hk hc w h1 h2
  · exact over_7_6 k c hk hc w h1 h2
  · exact over_8_0 k c hk hc w h1 h2
  · exact over_8_1 k c hk hc w h1 h2
  · exact over_8_2 k c hk hc w h1 h2
  · exact over_8_3 k c hk hc w h1 h2
  · exact over_8_4 k c hk hc w h1 h2
  · exact over_8_5 k c hk hc w h1 h2
  · exact over_8_6 k c hk hc w h1 h2
  · exact over_9_0 k c hk hc w h1 h2
  · exact over_9_1 k c hk hc w h1 h2
  · exact over_9_2 k c hk hc w h1 h2
  · exact over_9_3 k c hk hc w h1 h2
  · exact over_9_4 k c hk hc w h1 h2
  · exact over_9_5 k c hk hc w h1 h2
  · exact over_9_6 k c hk hc w h1 h2
  · exact over_10_0 k c hk hc w h1 h2
  · exact over_10_1 k c hk hc w h1 h2
  · exact over_10_2 k c hk hc w h1 h2
  · exact over_10_3 k c hk hc w h1 h2
  · exact over_10_4 k c hk hc w h1 h2
  · exact over_10_5 k c hk hc w h1 h2
  · exact over_10_6 k c hk hc w h1 h2
end Go.Proofs.Ytppmjbjgcakieaa
