/- What comes in: calls with their texts, and rows of rows of bytes. -/
import Derived.Test.YtckmahgkeinggaaT20
import Derived.Deep.Slices
import Derived.Deep.Strs
namespace Go.Proofs.Ytckmahgkeinggaa
open Go.RowKit Go.ChangeShapes Go.WideShapes Go.ChangeAt

theorem spot_none {w : World} {x : Addr} {v : Value} (h : w.cell? x = some v) : x.spot = none := by
  cases hsp : x.spot with
  | none => rfl
  | some s =>
    simp only [World.cell?, hsp] at h
    split at h <;> simp_all
theorem add_none {b o k : Nat} : (⟨b, o, none⟩ : Addr).add k = ⟨b, o + k, none⟩ := by unfold Addr.add; split <;> simp_all

/-- A call: its kind, its text, its number. -/
structure ActV where
  k : Nat
  a : Option Addr
  n : Nat
  c : Nat
  l : List UInt8
  m : Int

structure ActsIn (w : World) (B : Nat) (a : Option Addr) (n : Nat) (f : Nat → ActV) : Prop where
  each : ∀ i, i < n → ∃ b o, a = some ⟨b, o, none⟩ ∧ b < B ∧ w.cell? ⟨b, o + i * 3, none⟩ = some (.int .u8 (f i).k) ∧ w.cell? ⟨b, o + i * 3 + 1, none⟩ = some (.slice (f i).a (f i).n (f i).c) ∧ w.cell? ⟨b, o + i * 3 + 2, none⟩ = some (.int .i64 (f i).m) ∧
    (f i).k ≤ 255 ∧ Came w B (f i).a (f i).n (f i).c (f i).l

theorem ActsIn.under {w w' : World} {B : Nat} {a : Option Addr} {n : Nat} {f : Nat → ActV} (h : ActsIn w B a n f) (hb : Below B w w') : ActsIn w' B a n f := by
  refine ⟨fun i hi => ?_⟩
  obtain ⟨b, o, h1, h2, h3, h4, h5, h6, h7⟩ := h.each i hi
  exact ⟨b, o, h1, h2, by rw [hb.cell (p := ⟨b, _, none⟩) h2]; exact h3, by rw [hb.cell (p := ⟨b, _, none⟩) h2]; exact h4, by rw [hb.cell (p := ⟨b, _, none⟩) h2]; exact h5, h6, h7.under hb⟩

/-- A slice of bytes as it reads. -/
theorem came_trod {H : Type} {enc : TypeId × Value → H} {W : World} {base fuel : Nat} {v : Value} {x : DataW H × List MemPlace} (h : DataW.trod enc Try.prog W base (fun _ => true) true fuel 33 [v] = some x) :
    ∃ a n c l, v = .slice a n c ∧ Came W W.heap.size a n c l := by
  rcases open_ints Try.underlying33 Try.underlying5 (by kernel_rfl) h with ⟨hcs, _⟩ | ⟨y, l, c, zs, hcs, _, hl, hm, hz, _, hcell, hwz⟩
  · simp at hcs
    subst hcs
    obtain ⟨l, hl⟩ := IsRow.came (w := W) (a := none) (len := 0) (cap := 0) (zs := []) (.inl ⟨rfl, rfl, rfl, rfl⟩)
    exact ⟨none, 0, 0, l, rfl, hl⟩
  · simp at hcs
    subst hcs
    obtain ⟨l', hl'⟩ := IsRow.came (w := W) (a := some y) (len := l) (cap := c) (zs := zs) (.inr ⟨_, rfl, hl, hm, by simpa using hz, hcell, hwz⟩)
    exact ⟨some y, l, c, l', rfl, hl'⟩

theorem acts_in {H : Type} {enc : TypeId × Value → H} {W : World} {base b0 : Nat} {v : Value} {d : DataW H} {p : List MemPlace} {r : Reach}
    (hv : Value.okWide Try.prog W r b0 22 v) (h : DataW.Trod enc Try.prog W base (fun _ => true) true 22 v d p) :
    ∃ a n c f, v = .slice a n c ∧ ActsIn W W.heap.size a n f := by
  obtain ⟨a0, len0, cap0, rfl⟩ := okWide_slice Try.underlying22 hv
  obtain ⟨fuel, hf⟩ := h
  rcases Deep.open_slice Try.underlying22 hf with ⟨hcs, _⟩ | ⟨a, len, cap, m, n, D, Pl, hcs, _, hl, _, hm, _, hall⟩
  · simp [Value.cells] at hcs
    obtain ⟨rfl, rfl, rfl⟩ := hcs
    exact ⟨none, 0, 0, fun _ => ⟨0, none, 0, 0, [], 0⟩, rfl, ⟨fun i hi => absurd hi (Nat.not_lt_zero _)⟩⟩
  · simp [Value.cells] at hcs
    obtain ⟨rfl, rfl, rfl⟩ := hcs
    have hm' : m = cap0 := by simpa using hm
    have each : ∀ i, ∃ q : ActV, i < len0 → W.cell? (a.add (i * 3)) = some (.int .u8 q.k) ∧ W.cell? (a.add (i * 3 + 1)) = some (.slice q.a q.n q.c) ∧ W.cell? (a.add (i * 3 + 2)) = some (.int .i64 q.m) ∧ q.k ≤ 255 ∧ Came W W.heap.size q.a q.n q.c q.l := by
      intro i
      by_cases hi : i < len0
      · obtain ⟨cs', h1, h2⟩ := hall i (by omega)
        have ce : Try.prog.cellsOf 35 = 3 := by kernel_rfl
        rw [ce] at h1
        obtain ⟨_, hlen, hcell⟩ := World.cells?_some h1
        obtain ⟨y0, y1, y2, n', _, _, g0, g1, g2⟩ := Deep.trod_struct3 Try.underlying35 h2
        match cs', hlen with
        | [v0, v1, v2], _ =>
          have e0 := hcell 0 (by omega)
          have e1 := hcell 1 (by omega)
          have e2 := hcell 2 (by omega)
          rw [Deep.add_add] at e0 e1 e2
          have k5 : Try.prog.cellsOf 5 = 1 := by kernel_rfl
          have k33 : Try.prog.cellsOf 33 = 1 := by kernel_rfl
          have k3 : Try.prog.cellsOf 3 = 1 := by kernel_rfl
          simp [k5, k33, k3] at g0 g1 g2
          obtain ⟨n0, z0, _, w0⟩ := DataW.trod_int Try.underlying5 g0
          obtain ⟨a1, n1, c1, l1, rfl, hc⟩ := came_trod g1
          obtain ⟨n2, z2, _, _⟩ := DataW.trod_int Try.underlying3 g2
          obtain ⟨k, rfl, hk⟩ := byte_in w0
          simp only [List.cons.injEq, and_true] at z0 z2
          subst z0 z2
          exact ⟨⟨k, a1, n1, c1, l1, n2⟩, fun _ => ⟨by simpa using e0, by simpa using e1, by simpa using e2, hk, hc⟩⟩
      · exact ⟨⟨0, none, 0, 0, [], 0⟩, fun h => absurd h hi⟩
    obtain ⟨q, hq⟩ := Classical.axiomOfChoice each
    refine ⟨some a, len0, cap0, q, rfl, ⟨fun i hi => ?_⟩⟩
    obtain ⟨c0, c1, c2, hk, hc⟩ := hq i hi
    obtain ⟨z0, _⟩ := hq 0 (by omega)
    have hs := spot_none z0
    obtain ⟨b, o, s⟩ := a
    obtain rfl : s = none := by simpa [Addr.add] using hs
    rw [add_none] at c0 c1 c2
    exact ⟨b, o, rfl, World.block_lt_of_cell? W _ c0, c0, by rw [Nat.add_assoc]; exact c1, by rw [Nat.add_assoc]; exact c2, hk, hc⟩

/-- A row of bytes: where, how long, what. -/
structure RowV where
  a : Option Addr
  n : Nat
  c : Nat
  l : List UInt8

structure RowsIn (w : World) (B : Nat) (a : Option Addr) (n : Nat) (f : Nat → RowV) : Prop where
  each : ∀ i, i < n → ∃ b o, a = some ⟨b, o, none⟩ ∧ b < B ∧ w.cell? ⟨b, o + i, none⟩ = some (.slice (f i).a (f i).n (f i).c) ∧ Came w B (f i).a (f i).n (f i).c (f i).l

theorem RowsIn.under {w w' : World} {B : Nat} {a : Option Addr} {n : Nat} {f : Nat → RowV} (h : RowsIn w B a n f) (hb : Below B w w') : RowsIn w' B a n f := by
  refine ⟨fun i hi => ?_⟩
  obtain ⟨b, o, h1, h2, h3, h4⟩ := h.each i hi
  exact ⟨b, o, h1, h2, by rw [hb.cell (p := ⟨b, _, none⟩) h2]; exact h3, h4.under hb⟩

theorem rows_in {H : Type} {enc : TypeId × Value → H} {W : World} {base b0 : Nat} {v : Value} {d : DataW H} {p : List MemPlace} {r : Reach}
    (hv : Value.okWide Try.prog W r b0 48 v) (h : DataW.Trod enc Try.prog W base (fun _ => true) true 48 v d p) :
    ∃ a n c f, v = .slice a n c ∧ RowsIn W W.heap.size a n f := by
  obtain ⟨a0, len0, cap0, rfl⟩ := okWide_slice Try.underlying48 hv
  obtain ⟨fuel, hf⟩ := h
  rcases Deep.open_slice1 Try.underlying48 (by kernel_rfl) hf with ⟨hcs, _⟩ | ⟨a, len, cap, m, n, V, D, Pl, hcs, _, hl, _, hm, _, hall⟩
  · simp [Value.cells] at hcs
    obtain ⟨rfl, rfl, rfl⟩ := hcs
    exact ⟨none, 0, 0, fun _ => ⟨none, 0, 0, []⟩, rfl, ⟨fun i hi => absurd hi (Nat.not_lt_zero _)⟩⟩
  · simp [Value.cells] at hcs
    obtain ⟨rfl, rfl, rfl⟩ := hcs
    have hm' : m = cap0 := by simpa using hm
    have each : ∀ i, ∃ q : RowV, i < len0 → W.cell? (a.add i) = some (.slice q.a q.n q.c) ∧ Came W W.heap.size q.a q.n q.c q.l := by
      intro i
      by_cases hi : i < len0
      · obtain ⟨h1, h2⟩ := hall i (by omega)
        obtain ⟨a1, n1, c1, l1, hv1, hc⟩ := came_trod h2
        exact ⟨⟨a1, n1, c1, l1⟩, fun _ => ⟨by rw [h1, hv1], hc⟩⟩
      · exact ⟨⟨none, 0, 0, []⟩, fun h => absurd h hi⟩
    obtain ⟨q, hq⟩ := Classical.axiomOfChoice each
    refine ⟨some a, len0, cap0, q, rfl, ⟨fun i hi => ?_⟩⟩
    obtain ⟨c0, hc⟩ := hq i hi
    obtain ⟨z0, _⟩ := hq 0 (by omega)
    have hs := spot_none z0
    obtain ⟨b, o, s⟩ := a
    obtain rfl : s = none := by simpa [Addr.add] using hs
    rw [add_none] at c0
    exact ⟨b, o, rfl, World.block_lt_of_cell? W _ c0, c0, hc⟩
end Go.Proofs.Ytckmahgkeinggaa
