/- What comes in, for CreditSteps: three bytes by value; and the law over them. -/
import Derived.Test.YtfdikbbojddbmaaL5
import Derived.Test.YtfdikbbojddbmaaI
import Derived.Laws.IdiomArrays
import Derived.Lib.SmallJoins
import Derived.ProofKit
import Derived.OpenShut
namespace Go.Proofs.Ytfdikbbojddbmaa
open Go.RowKit Go.ChangeShapes Go.WideShapes Go.ChangeAt

theorem byte_of {n : Int} (h : (Lit.int .u8 n).wf = true) : 0 ≤ n ∧ n ≤ 255 := by
  obtain ⟨k, rfl, hk⟩ := byte_in h
  omega

theorem bytes3_in {H : Type} {enc : TypeId × Value → H} {W : World} {base b0 : Nat} {v : Value} {d : DataW H} {p : List MemPlace} {r : Reach}
    (hv : Value.okWide Try.prog W r b0 61 v) (h : DataW.Trod enc Try.prog W base (fun _ => true) true 61 v d p) :
    ∃ a b c : Int, v = .agg #[.int .u8 a, .int .u8 b, .int .u8 c] ∧ (0 ≤ a ∧ a ≤ 255) ∧ (0 ≤ b ∧ b ≤ 255) ∧ 0 ≤ c ∧ c ≤ 255 := by
  obtain ⟨cs, rfl, hsz⟩ : ∃ cs, v = .agg cs ∧ cs.size = Try.prog.cellsOf 61 := by
    simp only [Value.okWide, Try.underlying61] at hv
    obtain ⟨cs, h1, h2, _⟩ := hv
    exact ⟨cs, h1, h2⟩
  obtain ⟨c0, c1, c2, rfl⟩ := Joins.array3 (hsz.trans (by kernel_rfl))
  obtain ⟨fuel, hf⟩ := h
  obtain ⟨y0, y1, y2, n, _, h0, h1, h2⟩ := trod_array3 Try.underlying61 (by kernel_rfl) (by simpa [Value.cells] using hf)
  obtain ⟨n0, e0, _, w0⟩ := DataW.trod_int Try.underlying5 h0
  obtain ⟨n1, e1, _, w1⟩ := DataW.trod_int Try.underlying5 h1
  obtain ⟨n2, e2, _, w2⟩ := DataW.trod_int Try.underlying5 h2
  simp only [List.cons.injEq, and_true] at e0 e1 e2
  subst e0 e1 e2
  exact ⟨n0, n1, n2, rfl, byte_of w0, byte_of w1, byte_of w2⟩

theorem steps_raw {H : Type} {enc : TypeId × Value → H} {W : World} {base b1 : Nat} {r' : Reach} (g : Int) (hg : (Lit.int .u8 g).wf = true)
    (v1 : Value) (d1 : DataW H) (p1 : List MemPlace) (hv1 : Value.okWide Try.prog W r' b1 61 v1) (h1 : DataW.Trod enc Try.prog W base (fun _ => true) true 61 v1 d1 p1) :
    Calls Try.prog 5 #[.int .u8 g, v1] W fun e w' => e = .returned (.bool true) ∧ Below W.heap.size W w' := by
  obtain ⟨a, b, c, rfl, ha, hb, hc⟩ := bytes3_in hv1 h1
  exact steps_any g a b c W (byte_of hg) ha hb hc
end Go.Proofs.Ytfdikbbojddbmaa
