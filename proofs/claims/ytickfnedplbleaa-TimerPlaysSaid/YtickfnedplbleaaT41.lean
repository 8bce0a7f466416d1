/- The law TimerPlays for whatever comes in, as the wrapper wants it. -/
import Derived.Test.YtickfnedplbleaaT40
import Derived.Test.YtickfnedplbleaaT28
import Derived.Deep.Slices
import Derived.Deep.Strs
namespace Go.Proofs.Ytickfnedplbleaa
open Go.RowKit Go.ChangeShapes Go.WideShapes Go.ChangeAt

theorem spot_none {w : World} {x : Addr} {v : Value} (h : w.cell? x = some v) : x.spot = none := by
  cases hsp : x.spot with
  | none => rfl
  | some s =>
    simp only [World.cell?, hsp] at h
    split at h <;> simp_all
theorem add_none {b o k : Nat} : (⟨b, o, none⟩ : Addr).add k = ⟨b, o + k, none⟩ := by unfold Addr.add; split <;> simp_all
theorem wf_fits {n : Int} (h : (Lit.int .i64 n).wf = true) : Fits n := by
  have h2 : -9223372036854775808 ≤ n ∧ n ≤ 9223372036854775807 := by simpa [Lit.wf, IntKind.min, IntKind.max, IntKind.signed, IntKind.bits] using h
  exact h2

set_option maxRecDepth 100000 in
theorem acts_in {H : Type} {enc : TypeId × Value → H} {W : World} {base b0 : Nat} {v : Value} {d : DataW H} {p : List MemPlace} {r : Reach}
    (hv : Value.okWide Try.prog W r b0 22 v) (h : DataW.Trod enc Try.prog W base (fun _ => true) true 22 v d p) :
    ∃ a n c f, v = .slice a n c ∧ ActsIn W a n f := by
  obtain ⟨a0, len0, cap0, rfl⟩ := okWide_slice Try.underlying22 hv
  obtain ⟨fuel, hf⟩ := h
  rcases Deep.open_slice Try.underlying22 hf with ⟨hcs, _⟩ | ⟨a, len, cap, m, n, D, Pl, hcs, _, hl, _, hm, _, hall⟩
  · simp [Value.cells] at hcs
    obtain ⟨rfl, rfl, rfl⟩ := hcs
    exact ⟨none, 0, 0, fun _ => ⟨0, 0, 0⟩, rfl, fun i hi => absurd hi (Nat.not_lt_zero _)⟩
  · simp [Value.cells] at hcs
    obtain ⟨rfl, rfl, rfl⟩ := hcs
    have hm' : m = cap0 := by simpa using hm
    have each : ∀ i, ∃ q : ActV, i < len0 → W.cell? (a.add (i * 3)) = some (.int .u8 q.k) ∧ W.cell? (a.add (i * 3 + 1)) = some (.int .i64 q.id) ∧ W.cell? (a.add (i * 3 + 2)) = some (.int .i64 q.n) ∧ q.k ≤ 255 ∧ Fits q.id := by
      intro i
      by_cases hi : i < len0
      · obtain ⟨cs', h1, h2⟩ := hall i (by omega)
        have ce : Try.prog.cellsOf 28 = 3 := by kernel_rfl
        rw [ce] at h1
        obtain ⟨_, hlen, hcell⟩ := World.cells?_some h1
        obtain ⟨y0, y1, y2, n', _, _, g0, g1, g2⟩ := Deep.trod_struct3 Try.underlying28 h2
        match cs', hlen with
        | [v0, v1, v2], _ =>
          have e0 := hcell 0 (by omega)
          have e1 := hcell 1 (by omega)
          have e2 := hcell 2 (by omega)
          rw [Deep.add_add] at e0 e1 e2
          have k5 : Try.prog.cellsOf 5 = 1 := by kernel_rfl
          have k3 : Try.prog.cellsOf 3 = 1 := by kernel_rfl
          simp [k5, k3] at g0 g1 g2
          obtain ⟨n0, z0, _, w0⟩ := DataW.trod_int Try.underlying5 g0
          obtain ⟨n1, z1, _, w1⟩ := DataW.trod_int Try.underlying3 g1
          obtain ⟨n2, z2, _, w2⟩ := DataW.trod_int Try.underlying3 g2
          obtain ⟨k, rfl, hk⟩ := byte_in w0
          simp only [List.cons.injEq, and_true] at z0 z1 z2
          subst z0 z1 z2
          exact ⟨⟨k, n1, n2⟩, fun _ => ⟨by simpa using e0, by simpa using e1, by simpa using e2, hk, wf_fits w1⟩⟩
      · exact ⟨⟨0, 0, 0⟩, fun h => absurd h hi⟩
    obtain ⟨q, hq⟩ := Classical.axiomOfChoice each
    refine ⟨some a, len0, cap0, q, rfl, fun i hi => ?_⟩
    obtain ⟨c0, c1, c2, hk, hc⟩ := hq i hi
    obtain ⟨z0, _⟩ := hq 0 (by omega)
    have hs := spot_none z0
    obtain ⟨b, o, s⟩ := a
    obtain rfl : s = none := by simpa [Addr.add] using hs
    rw [add_none] at c0 c1 c2
    exact ⟨b, o, rfl, World.block_lt_of_cell? W _ c0, c0, by rw [Nat.add_assoc]; exact c1, by rw [Nat.add_assoc]; exact c2, hk, hc⟩
set_option maxRecDepth 100000 in
theorem plays_many (w : World) (id : Int) (a1 : Option Addr) (n c1 : Nat) (hn : 120 < n) :
    Calls Try.prog 3 #[.slice a1 n c1, .int .i64 id] w fun e w' => e = .returned (.bool true) ∧ Below w.heap.size w w' := by
  have t1 : (120 : Int) < (n : Int) := by omega
  go_enter Try.func3, Try.ntmps3
  go_wp2_with (first | ((with_reducible refine (awake_any _).mono ?_); rintro ex w2 ⟨rfl, hb2⟩))
  go_returns
  exact ⟨rfl, hb2⟩
set_option maxRecDepth 100000 in
theorem plays_raw {H : Type} {enc : TypeId × Value → H} {W : World} {base b1 : Nat} {r1 : Reach}
    (v1 : Value) (d1 : DataW H) (p1 : List MemPlace) (hv1 : Value.okWide Try.prog W r1 b1 22 v1) (h1 : DataW.Trod enc Try.prog W base (fun _ => true) true 22 v1 d1 p1) (id : Int) (hid : (Lit.int .i64 id).wf = true) :
    Calls Try.prog 3 #[v1, .int .i64 id] W fun e w' => e = .returned (.bool true) ∧ Below W.heap.size W w' := by
  obtain ⟨a, n, c, f, rfl, hf⟩ := acts_in hv1 h1
  by_cases hn : 120 < n
  · exact plays_many W id a n c hn
  · exact plays_in W a n c f hf id (wf_fits hid) (by omega)
end Go.Proofs.Ytickfnedplbleaa
