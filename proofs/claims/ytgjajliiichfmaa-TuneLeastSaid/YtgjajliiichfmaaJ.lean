/- The law TuneLeast over what comes in. -/
import Derived.Test.YtgjajliiichfmaaI
import Derived.Test.YtgjajliiichfmaaL5
namespace Go.Proofs.Ytgjajliiichfmaa
open Go.RowKit Go.ChangeShapes Go.WideShapes Go.ChangeAt

theorem least_raw {H : Type} {enc : TypeId × Value → H} {W : World} {base b0 b1 b2 : Nat} {r r' r'' : Reach} (v0 : Value) (d0 : DataW H) (p0 : List MemPlace) (hv0 : Value.okWide Try.prog W r b0 23 v0) (h0 : DataW.Trod enc Try.prog W base (fun _ => true) true 23 v0 d0 p0)
    (v1 : Value) (d1 : DataW H) (p1 : List MemPlace) (hv1 : Value.okWide Try.prog W r' b1 23 v1) (h1 : DataW.Trod enc Try.prog W base (fun _ => true) true 23 v1 d1 p1)
    (v2 : Value) (d2 : DataW H) (p2 : List MemPlace) (hv2 : Value.okWide Try.prog W r'' b2 39 v2) (h2 : DataW.Trod enc Try.prog W base (fun _ => true) true 39 v2 d2 p2) :
    Calls Try.prog 4 #[v0, v1, v2] W fun e w' => e = .returned (.bool true) ∧ Below W.heap.size W w' := by
  obtain ⟨a, b, c, d, rfl⟩ := vals_in hv0 h0
  obtain ⟨a', b', c', d', rfl⟩ := vals_in hv1 h1
  obtain ⟨i, v, rfl⟩ := pair_in hv2 h2
  exact least_law_any a b c d a' b' c' d' i v W
end Go.Proofs.Ytgjajliiichfmaa
