/- The law RingParts for whatever comes in, as the wrapper wants it. -/
import Derived.Test.YtckmahgkeinggaaT19
import Derived.Lib.SmallJoins
import Derived.Laws.IdiomArrays
import Derived.ProofKit
import Derived.OpenShut
namespace Go.Proofs.Ytckmahgkeinggaa
open Go.RowKit Go.ChangeShapes Go.WideShapes Go.ChangeAt
attribute [local go_sem] cell_over frozen_over lt_over le_over ne_over over_ne cell_set_same softAt softUpon

theorem array2 {α : Type} {cs : Array α} (h : cs.size = 2) : ∃ c0 c1, cs = #[c0, c1] := by
  obtain ⟨l⟩ := cs
  match l, h with
  | [c0, c1], _ => exact ⟨c0, c1, rfl⟩
theorem trod_array2 {H : Type} {enc : TypeId × Value → H} {P : Program} {w : World} {base : Nat} {spare : Nat → Bool} {held : Bool} {t e : TypeId} {fuel : Nat} {c0 c1 : Value} {x : DataW H × List MemPlace} (ht : P.underlying t = some (.array 2 e)) (hce : P.cellsOf e = 1)
    (h : DataW.trod enc P w base spare held fuel t [c0, c1] = some x) :
    ∃ y0 y1 n, x = (.agg [y0.1, y1.1], y0.2 ++ y1.2) ∧ DataW.trod enc P w base spare held n e [c0] = some y0 ∧ DataW.trod enc P w base spare held n e [c1] = some y1 := by
  cases fuel with
  | zero => simp [DataW.trod] at h
  | succ n =>
    unfold DataW.trod at h
    rw [ht] at h
    have r3 : List.range 2 = [0, 1] := rfl
    simp [r3, hce] at h
    obtain ⟨_, h⟩ := h
    cases h0 : DataW.trod enc P w base spare held n e [c0] with
    | none => simp [h0] at h
    | some y0 =>
      cases h1 : DataW.trod enc P w base spare held n e [c1] with
      | none => simp [h0, h1] at h
      | some y1 =>
        simp [h0, h1] at h
        exact ⟨y0, y1, n, h.symm, h0, h1⟩
theorem row2_in {H : Type} {enc : TypeId × Value → H} {W : World} {base b0 : Nat} {v : Value} {d : DataW H} {p : List MemPlace} {r : Reach} {t e : TypeId} {k : IntKind} (ht : Try.prog.underlying t = some (.array 2 e)) (he : Try.prog.underlying e = some (.int k)) (hce : Try.prog.cellsOf e = 1) (hct : Try.prog.cellsOf t = 2)
    (hv : Value.okWide Try.prog W r b0 t v) (h : DataW.Trod enc Try.prog W base (fun _ => true) true t v d p) :
    ∃ a b : Int, v = .agg #[.int k a, .int k b] ∧ (Lit.int k a).wf = true ∧ (Lit.int k b).wf = true := by
  obtain ⟨cs, rfl, hsz⟩ : ∃ cs, v = .agg cs ∧ cs.size = Try.prog.cellsOf t := by
    simp only [Value.okWide, ht] at hv
    obtain ⟨cs, h1, h2, _⟩ := hv
    exact ⟨cs, h1, h2⟩
  obtain ⟨c0, c1, rfl⟩ := array2 (hsz.trans hct)
  obtain ⟨fuel, hf⟩ := h
  obtain ⟨y0, y1, n, _, h0, h1⟩ := trod_array2 ht hce (by simpa [Value.cells] using hf)
  obtain ⟨n0, e0, _, w0⟩ := DataW.trod_int he h0
  obtain ⟨n1, e1, _, w1⟩ := DataW.trod_int he h1
  simp only [List.cons.injEq, and_true] at e0 e1
  subst e0 e1
  exact ⟨n0, n1, rfl, w0, w1⟩
theorem byte_in {n : Int} (h : (Lit.int .u8 n).wf = true) : ∃ k : Nat, n = k ∧ k ≤ 255 := by
  have h2 : 0 ≤ n ∧ n ≤ 255 := by simpa [Lit.wf, IntKind.min, IntKind.max, IntKind.signed, IntKind.bits] using h
  exact ⟨n.toNat, by omega, by omega⟩

set_option maxRecDepth 100000 in
theorem parts_long (w : World) (rb cb : Int) (a1 : Option Addr) (n1 c1 : Nat) (a2 : Option Addr) (n2 c2 : Nat) (h : 100 < n1 ∨ 100 < n2) :
    Calls Try.prog 6 #[.agg #[.int .u8 rb, .int .u8 cb], .slice a1 n1 c1, .slice a2 n2 c2] w fun e w' => e = .returned (.bool true) ∧ Below w.heap.size w w' := by
  obtain ⟨o1, ho1⟩ : ∃ o, decide ((100 : Int) < n1) = o := ⟨_, rfl⟩
  obtain ⟨o2, ho2⟩ : ∃ o, decide ((100 : Int) < n2) = o := ⟨_, rfl⟩
  have ho : o1 = true ∨ o1 = false ∧ o2 = true := by
    rw [← ho1, ← ho2]
    by_cases c : 100 < n1
    · exact .inl (by simp; omega)
    · exact .inr ⟨by simp; omega, by simp; omega⟩
  rcases ho with rfl | ⟨rfl, rfl⟩
  all_goals
    go_enter Try.func6, Try.ntmps6
    go_wp2
    refine wp_soft0 6 (by kernel_rfl) (by kernel_rfl) (tail_end (by kernel_rfl)) ?_
    simp only [List.take_succ_cons, List.take_zero]
    repeat (refine softLex_step (by rfl) (by rfl) (fun K hK => ?_); go_simp; (refine hK _ ?_; clear hK K))
    refine softLex_nil ?_
    intro w1 hb1
    have B1 : Below w.heap.size w w1 := bt (bta (Below.refl _ _) _) hb1
    clear hb1
    go_wp2_with (first
      | ((with_reducible refine (awake_any _).mono ?_); rintro e w2 ⟨rfl, hb⟩; have B2 := bt B1 hb; clear hb))
    go_returns
    exact ⟨rfl, B2⟩

theorem parts_raw {H : Type} {enc : TypeId × Value → H} {W : World} {base b0 : Nat} {r : Reach} (v0 : Value) (d0 : DataW H) (p0 : List MemPlace) (hv0 : Value.okWide Try.prog W r b0 50 v0) (h0 : DataW.Trod enc Try.prog W base (fun _ => true) true 50 v0 d0 p0)
    (a1 : Option Addr) (n1 c1 : Nat) (z1 : List Int) (h1 : IsRow .u8 W a1 n1 c1 z1) (a2 : Option Addr) (n2 c2 : Nat) (z2 : List Int) (h2 : IsRow .u8 W a2 n2 c2 z2) :
    Calls Try.prog 6 #[v0, .slice a1 n1 c1, .slice a2 n2 c2] W fun e w' => e = .returned (.bool true) ∧ Below W.heap.size W w' := by
  obtain ⟨a, b, rfl, wa, wb⟩ := row2_in Try.underlying50 Try.underlying5 (by kernel_rfl) (by kernel_rfl) hv0 h0
  obtain ⟨l1, k1⟩ := h1.came
  obtain ⟨l2, k2⟩ := h2.came
  obtain ⟨rb, rfl, hr⟩ := byte_in wa
  obtain ⟨cb, rfl, hc⟩ := byte_in wb
  by_cases c : 100 < n1 ∨ 100 < n2
  · exact parts_long W rb cb a1 n1 c1 a2 n2 c2 c
  · exact parts_any W rb cb hr hc a1 n1 c1 l1 k1 a2 n2 c2 l2 k2 (by omega) (by omega)
end Go.Proofs.Ytckmahgkeinggaa
