/- A queue in memory: its items as the library's heap has them, and where each one is; what a call may change. -/
import Derived.Test.YtickfnedplbleaaT1
import Derived.Laws.OwnMore
namespace Go.Proofs.Ytickfnedplbleaa
open Go.RowKit
open Go.Maps (Keyed has size Tidy IsMap)

/-- When, and which. -/
abbrev It := Int × Int
def itv (x : It) : List Value := [.int .i64 x.1, .int .i64 x.2]
def itvs (l : List It) : List Value := l.flatMap itv
theorem itvs_len (l : List It) : (itvs l).length = l.length * 2 := by
  induction l with
  | nil => rfl
  | cons a l ih =>
    have : itvs (a :: l) = .int .i64 a.1 :: .int .i64 a.2 :: itvs l := rfl
    rw [this]
    simp only [List.length_cons, ih]
    omega
theorem itvs_at : ∀ (l : List It) (i : Nat) (x : It), l[i]? = some x → (itvs l)[i * 2]? = some (.int .i64 x.1) ∧ (itvs l)[i * 2 + 1]? = some (.int .i64 x.2)
  | [], i, x, h => by simp at h
  | a :: l, 0, x, h => by
    simp at h
    subst h
    exact ⟨rfl, rfl⟩
  | a :: l, i + 1, x, h => by
    have := itvs_at l i x (by simpa using h)
    have e : itvs (a :: l) = .int .i64 a.1 :: .int .i64 a.2 :: itvs l := rfl
    rw [e, Nat.add_mul, show 1 * 2 = 2 from rfl]
    simpa using this
theorem itvs_app (l m : List It) : itvs (l ++ m) = itvs l ++ itvs m := by simp [itvs]
theorem itvs_one (x : It) : itvs [x] = [.int .i64 x.1, .int .i64 x.2] := rfl
theorem itvs_oneCell (l : List It) : ∀ u ∈ itvs l, u.oneCell' = true := by
  intro u hu
  obtain ⟨x, _, hx⟩ := List.mem_flatMap.1 hu
  simp only [itv, List.mem_cons, List.not_mem_nil, or_false] at hx
  rcases hx with rfl | rfl <;> rfl
theorem itvs_take (l : List It) : ∀ n, itvs (l.take n) = (itvs l).take (n * 2) := by
  induction l with
  | nil => intro n; simp [itvs]
  | cons a l ih =>
    intro n
    cases n with
    | zero => simp [itvs]
    | succ n =>
      have e : itvs (a :: l) = .int .i64 a.1 :: .int .i64 a.2 :: itvs l := rfl
      have e2 : itvs ((a :: l).take (n + 1)) = .int .i64 a.1 :: .int .i64 a.2 :: itvs (l.take n) := rfl
      rw [e, e2, ih n, Nat.add_mul]
      rfl
theorem itvs_set : ∀ (l : List It) (i : Nat) (x : It), i < l.length → itvs (l.set i x) = ((itvs l).set (i * 2) (.int .i64 x.1)).set (i * 2 + 1) (.int .i64 x.2)
  | [], i, x, h => by simp at h
  | a :: l, 0, x, h => rfl
  | a :: l, i + 1, x, h => by
    have := itvs_set l i x (by simpa using h)
    have e : itvs (a :: l) = .int .i64 a.1 :: .int .i64 a.2 :: itvs l := rfl
    have e2 : itvs ((a :: l).set (i + 1) x) = .int .i64 a.1 :: .int .i64 a.2 :: itvs (l.set i x) := rfl
    rw [e2, e, this, Nat.add_mul]
    rfl

/-- What an item may be. -/
def Good (x : It) : Prop := 0 ≤ x.1 ∧ x.1 ≤ 1099511627776 ∧ 0 ≤ x.2 ∧ x.2 ≤ 4611686018427387903
theorem Good.fits {x : It} (h : Good x) : Fits x.2 := by
  obtain ⟨_, _, h3, h4⟩ := h
  exact ⟨by omega, by omega⟩
/-- Does an item come ahead of another one? -/
def ltI (a b : It) : Prop := a.1 < b.1 ∨ (a.1 = b.1 ∧ a.2 < b.2)
instance (a b : It) : Decidable (ltI a b) := by unfold ltI; exact inferInstance

/-- The map has each item's place, and nothing besides. -/
def Places (D : D0) (l : List It) : Prop :=
  (∀ (i : Nat) (x : It), l[i]? = some x → has D (.int .i64 x.2) = true ∧ D.atKey (.int .i64 x.2) (.lit (.int .i64 0)) = .lit (.int .i64 (i : Int))) ∧
  (∀ id, has D (.int .i64 id) = true → ∃ x, x ∈ l ∧ x.2 = id)

/-- A queue that is there. -/
structure QIs (w : World) (B pq pm : Nat) (v : Value) (l : List It) : Prop where
  blk : w.heap[pq]? = some (.cells #[v, .map (some pm)] 63 (0, 0))
  row : w.ownsRow B 43 2 v l.length (itvs l)
  places : ∃ D, MapAt w pm l.length D ∧ Places D l
  good : ∀ x ∈ l, Good x
  ids : (l.map (·.2)).Nodup
  len : l.length ≤ 64
  lowq : B ≤ pq
  lowm : B ≤ pm

/-- What a call may have changed: the queue's own blocks alone. -/
structure Step (w w' : World) (pq pm : Nat) (v v' : Value) : Prop where
  os : w'.os = w.os
  tape : w'.tape = w.tape
  output : w'.output = w.output
  size : w.heap.size ≤ w'.heap.size
  block : ∀ b, b < w.heap.size → b ≠ pq → b ≠ pm → v.ownBlock ≠ some b → w'.heap[b]? = w.heap[b]?
  own : ∀ k, v'.ownBlock = some k → v.ownBlock = some k ∨ w.heap.size ≤ k

theorem Step.refl (w : World) (pq pm : Nat) (v : Value) : Step w w pq pm v v := ⟨rfl, rfl, rfl, Nat.le_refl _, fun _ _ _ _ _ => rfl, fun _ h => .inl h⟩
theorem Step.of {w w' : World} {pq pm : Nat} {v : Value} (hb : Below w.heap.size w w') : Step w w' pq pm v v := ⟨hb.os, hb.tape, hb.output, hb.size, fun b h _ _ _ => hb.block b h, fun _ h => .inl h⟩
theorem Step.trans {w w1 w2 : World} {pq pm : Nat} {v v1 v2 : Value} (h : Step w w1 pq pm v v1) (k : Step w1 w2 pq pm v1 v2) : Step w w2 pq pm v v2 := by
  refine ⟨k.os.trans h.os, k.tape.trans h.tape, k.output.trans h.output, Nat.le_trans h.size k.size, fun b hb h1 h2 h3 => ?_, fun x hx => ?_⟩
  · refine (k.block b (Nat.lt_of_lt_of_le hb h.size) h1 h2 fun hv => ?_).trans (h.block b hb h1 h2 h3)
    rcases h.own b hv with h4 | h4
    · exact h3 h4
    · omega
  · rcases k.own x hx with h4 | h4
    · exact h.own x h4
    · exact .inr (Nat.le_trans h.size h4)
theorem Step.grow {w w1 w2 : World} {pq pm : Nat} {v v1 : Value} (h : Step w w1 pq pm v v1) (hb : Below w1.heap.size w1 w2) : Step w w2 pq pm v v1 := h.trans (Step.of hb)
theorem Step.below {w0 w w' : World} {B pq pm : Nat} {v v' : Value} (h : Step w w' pq pm v v') (hb : Below B w0 w) (h1 : B ≤ pq) (h2 : B ≤ pm) (h3 : ∀ k, v.ownBlock = some k → B ≤ k) (hB : B ≤ w.heap.size) : Below B w0 w' :=
  ⟨h.os.trans hb.os, h.tape.trans hb.tape, h.output.trans hb.output, Nat.le_trans hb.size h.size, fun b hlt => (h.block b (by omega) (by omega) (by omega) (fun hv => by have := h3 b hv; omega)).trans (hb.block b hlt)⟩
theorem Step.row {w w' : World} {pq pm : Nat} {v : Value} (hg : w.grownBy w' v.ownBlock) : Step w w' pq pm v v := ⟨hg.os, hg.tape, hg.output, hg.size, fun b h _ _ h3 => hg.block b h fun e => h3 e.symm, fun _ h => .inl h⟩
theorem Step.map {w w' : World} {pq pm : Nat} {v : Value} (hg : w.grownBy w' (some pm)) : Step w w' pq pm v v := ⟨hg.os, hg.tape, hg.output, hg.size, fun b h _ h2 _ => hg.block b h fun e => h2 (Option.some.inj e), fun _ h => .inl h⟩
theorem Step.cell (w : World) (pq pm : Nat) (v v' : Value) (o : Nat) (u : Value) (hv : ∀ k, v'.ownBlock = some k → v.ownBlock = some k ∨ w.heap.size ≤ k) : Step w (w.setCell ⟨pq, o, none⟩ u) pq pm v v' :=
  ⟨rfl, rfl, rfl, by simp, fun _ _ h1 _ _ => blk_far h1, hv⟩

theorem own_below {w w' : World} {B E sz : Nat} {v : Value} {n : Nat} {xs : List Value} (h : w.ownsRow B E sz v n xs) (hb : Below w.heap.size w w') : w'.ownsRow B E sz v n xs := by
  obtain ⟨h1, h2⟩ := h
  refine ⟨h1, h2.imp id ?_⟩
  rintro ⟨g, cap, cur, e, hg, hh, rest⟩
  exact ⟨g, cap, cur, e, hg, blk_grow hb hh, rest⟩
theorem QIs.grow {w w' : World} {B pq pm : Nat} {v : Value} {l : List It} (h : QIs w B pq pm v l) (hb : Below w.heap.size w w') : QIs w' B pq pm v l := by
  obtain ⟨D, hD, hP⟩ := h.places
  exact ⟨blk_grow hb h.blk, own_below h.row hb, ⟨D, hD.same (hb.block pm hD.lt), hP⟩, h.good, h.ids, h.len, h.lowq, h.lowm⟩
theorem QIs.ltq {w : World} {B pq pm : Nat} {v : Value} {l : List It} (h : QIs w B pq pm v l) : pq < w.heap.size := blk_lt h.blk
theorem QIs.ltm {w : World} {B pq pm : Nat} {v : Value} {l : List It} (h : QIs w B pq pm v l) : pm < w.heap.size := by
  obtain ⟨D, hD, _⟩ := h.places
  exact hD.lt
theorem QIs.lowv {w : World} {B pq pm : Nat} {v : Value} {l : List It} (h : QIs w B pq pm v l) : ∀ k, v.ownBlock = some k → B ≤ k ∧ k < w.heap.size := h.row.lt
/-- The blocks are apart. -/
theorem QIs.apart {w : World} {B pq pm : Nat} {v : Value} {l : List It} (h : QIs w B pq pm v l) : pq ≠ pm ∧ ∀ k, v.ownBlock = some k → k ≠ pq ∧ k ≠ pm := by
  obtain ⟨D, ⟨⟨es, cl, hm, _⟩, _⟩, _⟩ := h.places
  refine ⟨fun e => ?_, fun k hk => ⟨fun e => ?_, fun e => ?_⟩⟩
  · rw [← e, h.blk] at hm
    cases hm
  · rcases h.row.2 with ⟨rfl, _⟩ | ⟨g, cap, cur, rfl, _, hh, _⟩
    · cases hk
    · cases hk
      have e : g = pq := e
      rw [e, h.blk] at hh
      cases hh
  · rcases h.row.2 with ⟨rfl, _⟩ | ⟨g, cap, cur, rfl, _, hh, _⟩
    · cases hk
    · cases hk
      have e : g = pm := e
      rw [e, hm] at hh
      cases hh
end Go.Proofs.Ytickfnedplbleaa
