/- What comes in, for CreditAgree: a byte, and a slice of deeds; and the law over them. -/
import Derived.Test.YtfdikbbojddbmaaL6
import Derived.Test.YtfdikbbojddbmaaI
namespace Go.Proofs.Ytfdikbbojddbmaa
open Go.RowKit Go.ChangeShapes Go.WideShapes Go.ChangeAt

/-- A slice of deeds. -/
theorem deeds_in {H : Type} {enc : TypeId × Value → H} {W : World} {base b0 : Nat} {v : Value} {d : DataW H} {p : List MemPlace} {r : Reach}
    (hv : Value.okWide Try.prog W r b0 57 v) (h : DataW.Trod enc Try.prog W base (fun _ => true) true 57 v d p) :
    ∃ a n c ks es, v = .slice a n c ∧ Deeds W a n ks es ∧ (∀ i, ks i ≤ 255) ∧ ∀ i, es i ≤ 255 := by
  obtain ⟨a0, len0, cap0, rfl⟩ := okWide_slice Try.underlying57 hv
  obtain ⟨fuel, hf⟩ := h
  rcases Deep.open_slice_pairs Try.underlying57 Try.underlying59 (by kernel_rfl) rfl rfl (by kernel_rfl) (by kernel_rfl) hf with ⟨hcs, _⟩ | ⟨a, len, cap, m, n, V0, V1, D0, D1, P0, P1, hcs, _, hl, _, hm, _, hall⟩
  · simp [Value.cells] at hcs
    obtain ⟨rfl, rfl, rfl⟩ := hcs
    exact ⟨none, 0, 0, fun _ => 0, fun _ => 0, rfl, fun i hi => absurd hi (Nat.not_lt_zero _), fun _ => Nat.zero_le _, fun _ => Nat.zero_le _⟩
  · simp [Value.cells] at hcs
    obtain ⟨rfl, rfl, rfl⟩ := hcs
    have hm' : m = cap0 := by simpa using hm
    have each : ∀ i, ∃ q : Nat × Nat, q.1 ≤ 255 ∧ q.2 ≤ 255 ∧ (i < len0 → V0 i = .int .u8 q.1 ∧ V1 i = .int .u8 q.2) := by
      intro i
      by_cases hi : i < len0
      · obtain ⟨_, _, t0, t1⟩ := hall i (by omega)
        obtain ⟨n0, e0, _, w0⟩ := DataW.trod_int Try.underlying5 t0
        obtain ⟨n1, e1, _, w1⟩ := DataW.trod_int Try.underlying5 t1
        obtain ⟨k, rfl, hk⟩ := byte_in w0
        obtain ⟨l, rfl, hl⟩ := byte_in w1
        simp only [List.cons.injEq, and_true] at e0 e1
        exact ⟨(k, l), hk, hl, fun _ => ⟨e0, e1⟩⟩
      · exact ⟨(0, 0), Nat.zero_le _, Nat.zero_le _, fun h => absurd h hi⟩
    obtain ⟨q, hq⟩ := Classical.axiomOfChoice each
    refine ⟨some a, len0, cap0, fun i => (q i).1, fun i => (q i).2, rfl, fun i hi => ?_, fun i => (hq i).1, fun i => (hq i).2.1⟩
    obtain ⟨c0, c1, _, _⟩ := hall i (by omega)
    obtain ⟨z0, _, _, _⟩ := hall 0 (by omega)
    have hs := spot_none z0
    obtain ⟨b, o, s⟩ := a
    obtain rfl : s = none := by simpa [Addr.add] using hs
    rw [add_none] at c0 c1
    obtain ⟨h0, h1⟩ := (hq i).2.2 hi
    rw [h0] at c0
    rw [h1] at c1
    exact ⟨b, o, rfl, c0, c1⟩

theorem agree_raw {H : Type} {enc : TypeId × Value → H} {W : World} {base b1 : Nat} {r' : Reach} (g : Int) (hg : (Lit.int .u8 g).wf = true)
    (v1 : Value) (d1 : DataW H) (p1 : List MemPlace) (hv1 : Value.okWide Try.prog W r' b1 57 v1) (h1 : DataW.Trod enc Try.prog W base (fun _ => true) true 57 v1 d1 p1) :
    Calls Try.prog 4 #[.int .u8 g, v1] W fun e w' => e = .returned (.bool true) ∧ Below W.heap.size W w' := by
  obtain ⟨a, n, c, ks, es, rfl, ha, hk, he⟩ := deeds_in hv1 h1
  obtain ⟨k, rfl, hk2⟩ := byte_in hg
  rcases Nat.lt_or_ge 80 n with h | h
  · exact agree_many _ a n c W h
  · exact agree_any _ a n c ks es W (by omega) ha hk he h
end Go.Proofs.Ytfdikbbojddbmaa
