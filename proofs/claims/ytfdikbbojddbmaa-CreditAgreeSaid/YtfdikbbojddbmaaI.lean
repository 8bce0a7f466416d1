/- What comes in: a ledger by value, and a slice of acts; and the law CreditRuns over them. -/
import Derived.Test.YtfdikbbojddbmaaL3
import Derived.Deep.SlicePairs
import Derived.Lib.SmallJoins
import Derived.ProofKit
import Derived.OpenShut
namespace Go.Proofs.Ytfdikbbojddbmaa
open Go.RowKit Go.ChangeShapes Go.WideShapes Go.ChangeAt


theorem runs_many (l : L4) (aa : Option Addr) (n c1 : Nat) (m : Int) (w : World) (hn : 60 < n) :
    Calls Try.prog 3 #[.agg #[.int .i64 l.1, .int .i64 l.2.1, .int .i64 l.2.2.1, .int .i64 l.2.2.2], .slice aa n c1, .int .i64 m] w fun e w' => e = .returned (.bool true) ∧ Below w.heap.size w w' := by
  have n60 : (60 : Int) < (n : Int) := by omega
  go_enter Try.func3, Try.ntmps3
  go_wp2_with ((with_reducible refine (awake_any _).mono ?_); rintro ex w2 ⟨rfl, hb2⟩)
  go_returns
  exact ⟨rfl, bt (bta (Below.refl _ _) _) hb2⟩
theorem spot_none {w : World} {x : Addr} {v : Value} (h : w.cell? x = some v) : x.spot = none := by
  cases hsp : x.spot with
  | none => rfl
  | some s =>
    simp only [World.cell?, hsp] at h
    split at h <;> simp_all

theorem add_none {b o k : Nat} : (⟨b, o, none⟩ : Addr).add k = ⟨b, o + k, none⟩ := by unfold Addr.add; split <;> simp_all

/-- A ledger by value. -/
theorem led_in {H : Type} {enc : TypeId × Value → H} {W : World} {base b0 : Nat} {v : Value} {d : DataW H} {p : List MemPlace} {r : Reach}
    (hv : Value.okWide Try.prog W r b0 23 v) (h : DataW.Trod enc Try.prog W base (fun _ => true) true 23 v d p) : ∃ l : L4, v = .agg #[.int .i64 l.1, .int .i64 l.2.1, .int .i64 l.2.2.1, .int .i64 l.2.2.2] := by
  obtain ⟨v0, v1, v2, v3, y0, y1, y2, y3, n, rfl, _, _, h0, h1, h2, h3⟩ := Joins.open_agg4 Try.underlying23 (by kernel_rfl) (by kernel_rfl) hv h
  obtain ⟨n0, e0, _, _⟩ := DataW.trod_int Try.underlying3 h0
  obtain ⟨n1, e1, _, _⟩ := DataW.trod_int Try.underlying3 h1
  obtain ⟨n2, e2, _, _⟩ := DataW.trod_int Try.underlying3 h2
  obtain ⟨n3, e3, _, _⟩ := DataW.trod_int Try.underlying3 h3
  simp only [List.cons.injEq, and_true] at e0 e1 e2 e3
  subst e0 e1 e2 e3
  exact ⟨(n0, n1, n2, n3), rfl⟩

theorem byte_in {n : Int} (h : (Lit.int .u8 n).wf = true) : ∃ k : Nat, n = k ∧ k ≤ 255 := by
  simp [Lit.wf, IntKind.min, IntKind.max, IntKind.signed, IntKind.bits] at h
  exact ⟨n.toNat, by omega, by omega⟩

/-- A slice of acts. -/
theorem acts_in {H : Type} {enc : TypeId × Value → H} {W : World} {base b0 : Nat} {v : Value} {d : DataW H} {p : List MemPlace} {r : Reach}
    (hv : Value.okWide Try.prog W r b0 24 v) (h : DataW.Trod enc Try.prog W base (fun _ => true) true 24 v d p) :
    ∃ a n c ks ns, v = .slice a n c ∧ Acts W a n ks ns ∧ ∀ i, ks i ≤ 255 := by
  obtain ⟨a0, len0, cap0, rfl⟩ := okWide_slice Try.underlying24 hv
  obtain ⟨fuel, hf⟩ := h
  rcases Deep.open_slice_pairs Try.underlying24 Try.underlying66 (by kernel_rfl) rfl rfl (by kernel_rfl) (by kernel_rfl) hf with ⟨hcs, _⟩ | ⟨a, len, cap, m, n, V0, V1, D0, D1, P0, P1, hcs, _, hl, _, hm, _, hall⟩
  · simp [Value.cells] at hcs
    obtain ⟨rfl, rfl, rfl⟩ := hcs
    exact ⟨none, 0, 0, fun _ => 0, fun _ => 0, rfl, fun i hi => absurd hi (Nat.not_lt_zero _), fun _ => Nat.zero_le _⟩
  · simp [Value.cells] at hcs
    obtain ⟨rfl, rfl, rfl⟩ := hcs
    have hm' : m = cap0 := by simpa using hm
    have each : ∀ i, ∃ q : Nat × Int, q.1 ≤ 255 ∧ (i < len0 → V0 i = .int .u8 q.1 ∧ V1 i = .int .i64 q.2) := by
      intro i
      by_cases hi : i < len0
      · obtain ⟨_, _, t0, t1⟩ := hall i (by omega)
        obtain ⟨n0, e0, _, w0⟩ := DataW.trod_int Try.underlying5 t0
        obtain ⟨n1, e1, _, _⟩ := DataW.trod_int Try.underlying3 t1
        obtain ⟨k, rfl, hk⟩ := byte_in w0
        simp only [List.cons.injEq, and_true] at e0 e1
        exact ⟨(k, n1), hk, fun _ => ⟨e0, e1⟩⟩
      · exact ⟨(0, 0), Nat.zero_le _, fun h => absurd h hi⟩
    obtain ⟨q, hq⟩ := Classical.axiomOfChoice each
    refine ⟨some a, len0, cap0, fun i => (q i).1, fun i => (q i).2, rfl, fun i hi => ?_, fun i => (hq i).1⟩
    obtain ⟨c0, c1, _, _⟩ := hall i (by omega)
    obtain ⟨z0, _, _, _⟩ := hall 0 (by omega)
    have hs := spot_none z0
    obtain ⟨b, o, s⟩ := a
    obtain rfl : s = none := by simpa [Addr.add] using hs
    rw [add_none] at c0 c1
    obtain ⟨h0, h1⟩ := (hq i).2 hi
    rw [h0] at c0
    rw [h1] at c1
    exact ⟨b, o, rfl, c0, by rw [Nat.add_assoc]; exact c1⟩

theorem runs_raw {H : Type} {enc : TypeId × Value → H} {W : World} {base b0 b1 : Nat} {r r' : Reach} (v0 : Value) (d0 : DataW H) (p0 : List MemPlace) (hv0 : Value.okWide Try.prog W r b0 23 v0) (h0 : DataW.Trod enc Try.prog W base (fun _ => true) true 23 v0 d0 p0)
    (v1 : Value) (d1 : DataW H) (p1 : List MemPlace) (hv1 : Value.okWide Try.prog W r' b1 24 v1) (h1 : DataW.Trod enc Try.prog W base (fun _ => true) true 24 v1 d1 p1) (m : Int) (_ : (Lit.int .i64 m).wf = true) :
    Calls Try.prog 3 #[v0, v1, .int .i64 m] W fun e w' => e = .returned (.bool true) ∧ Below W.heap.size W w' := by
  obtain ⟨l, rfl⟩ := led_in hv0 h0
  obtain ⟨a, n, c, ks, ns, rfl, ha, hk⟩ := acts_in hv1 h1
  rcases Nat.lt_or_ge 60 n with h | h
  · exact runs_many l a n c m W h
  · exact runs_any l a n c ks ns m W ha hk h
end Go.Proofs.Ytfdikbbojddbmaa
