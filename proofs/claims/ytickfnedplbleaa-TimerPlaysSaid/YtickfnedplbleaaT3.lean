/- The contracts of ahead, Len and Less. -/
import Derived.Test.YtickfnedplbleaaT2
import Derived.Test.YtickfnedplbleaaS3
import Derived.WalkKit
import Derived.WalkSpells
import Derived.WalkLawsBesides
import Derived.Handy
import Derived.Laws.ResultCell
import Derived.Deep.Light
import Derived.Lib.Hide
namespace Go.Proofs.Ytickfnedplbleaa
open Go.RowKit
attribute [local go_sem] cell_over frozen_over lt_over le_over ne_over over_ne cell_set_same softAt softUpon lightUpon heavyUpon cell_kept frozen_kept

/-- A goal at which the walk halts. -/
def Halted (p : Prop) : Prop := p
theorem unhalt {p : Prop} (h : Halted p) : p := h
theorem bov {a w : World} (h : Below a.heap.size a w) (x : World) : Below a.heap.size a (over w x) := bt h (over_below w x)
theorem bst {a b : World} (h : Below a.heap.size a b) {p : Addr} (hp : a.heap.size ≤ p.block) (v : Value) : Below a.heap.size a (b.setCell p v) := h.setCell hp v

theorem ahead_any (a b : It) (ha : Good a) (hb : Good b) (w : World) : Calls Try.prog 29 #[.agg #[.int .i64 a.1, .int .i64 a.2], .agg #[.int .i64 b.1, .int .i64 b.2]] w
    fun e w' => e = .returned (.int .i64 (if a.1 = b.1 then a.2 - b.2 else a.1 - b.1)) ∧ Below w.heap.size w w' := by
  obtain ⟨a1, a2, a3, a4⟩ := ha
  obtain ⟨b1, b2, b3, b4⟩ := hb
  have x1 : IntKind.i64.wrap (a.1 - b.1) = a.1 - b.1 := IntWalk.i64_in _ (by omega)
  have x2 : IntKind.i64.wrap (a.2 - b.2) = a.2 - b.2 := IntWalk.i64_in _ (by omega)
  by_cases h : a.1 = b.1
  · rw [if_pos h]
    have H := Lib.hid h
    have e0 : (a.1 == b.1) = true := by simpa using h
    have e1 : (a.1 != b.1) = false := by simpa using h
    clear h
    go_enter Try.func29, Try.ntmps29
    go_wp2
    go_returns
    exact ⟨rfl, bta (bta (Below.refl _ _) _) _⟩
  · rw [if_neg h]
    have e0 : (a.1 == b.1) = false := by simpa using h
    have e1 : (a.1 != b.1) = true := by simpa using h
    go_enter Try.func29, Try.ntmps29
    go_wp2
    go_returns
    exact ⟨rfl, bta (bta (Below.refl _ _) _) _⟩

theorem len_any {w : World} {B pq pm : Nat} {v : Value} {l : List It} (h : QIs w B pq pm v l) : Calls Try.prog 71 #[.pointer (some ⟨pq, 0, none⟩)] w
    fun e w' => e = .returned (.int .i64 (l.length : Nat)) ∧ Below w.heap.size w w' := by
  obtain ⟨a, c, rfl⟩ : ∃ a c, v = .slice a l.length c := by
    rcases h.row.2 with ⟨h1, h2⟩ | ⟨g, cap, cur, h1, _⟩
    · exact ⟨none, 0, by rw [h1, h2]⟩
    · exact ⟨_, _, h1⟩
  have c1 : w.cell? ⟨pq, 0, none⟩ = some (.slice a l.length c) := blk_cell h.blk 0
  go_enter Try.func71, Try.ntmps71
  go_wp2
  go_returns
  exact ⟨rfl, Below.refl _ _⟩

/-- The queue's items stand in a block of their own, if there is one. -/
theorem QIs.some {w : World} {B pq pm : Nat} {v : Value} {l : List It} (h : QIs w B pq pm v l) (hl : 0 < l.length) : ∃ g cap, v = .slice (some ⟨g, 0, none⟩) l.length cap ∧ l.length ≤ cap ∧ B ≤ g ∧ g < w.heap.size ∧ g ≠ pq ∧ g ≠ pm ∧
    (∀ j, w.frozen? ⟨g, j, none⟩ = false) ∧ (∀ (i : Nat) (x : It), l[i]? = some x → w.cell? ⟨g, i * 2, none⟩ = some (.int .i64 x.1) ∧ w.cell? ⟨g, i * 2 + 1, none⟩ = some (.int .i64 x.2)) := by
  have hr := h.row
  rcases hr.2 with ⟨_, h0⟩ | ⟨g, cap, cur, rfl, hg, hh, hn, _⟩
  · omega
  · obtain ⟨h1, h2⟩ := h.apart.2 g rfl
    refine ⟨g, cap, rfl, hn, hg, blk_lt hh, h1, h2, fun j => hr.frozenAt j, fun i x hx => ?_⟩
    obtain ⟨e1, e2⟩ := itvs_at l i x hx
    have hi : i < l.length := (List.getElem?_eq_some_iff.1 hx).1
    exact ⟨(hr.cellAt _ (by omega)).trans e1, (hr.cellAt _ (by omega)).trans e2⟩

theorem less_any {w : World} {B pq pm : Nat} {v : Value} {l : List It} (h : QIs w B pq pm v l) (i k : Nat) (x y : It) (hi : l[i]? = Option.some x) (hk : l[k]? = Option.some y) : Calls Try.prog 72 #[.pointer (Option.some ⟨pq, 0, none⟩), .int .i64 i, .int .i64 k] w
    fun e w' => e = .returned (.bool (decide (ltI x y))) ∧ Below w.heap.size w w' := by
  have hil := (List.getElem?_eq_some_iff.1 hi).1
  have hkl := (List.getElem?_eq_some_iff.1 hk).1
  obtain ⟨g, cap, rfl, hcap, _, hgl, hgq, hgm, hfr, hcl⟩ := h.some (by omega)
  have c1 : w.cell? ⟨pq, 0, none⟩ = Option.some (.slice (Option.some ⟨g, 0, none⟩) l.length cap) := blk_cell h.blk 0
  obtain ⟨c2, c3⟩ := hcl i x hi
  obtain ⟨c4, c5⟩ := hcl k y hk
  have A0 := fun W => ahead_any x y (h.good x (List.mem_of_getElem? hi)) (h.good y (List.mem_of_getElem? hk)) W
  obtain ⟨d, hd⟩ : ∃ d, d = if x.1 = y.1 then x.2 - y.2 else x.1 - y.1 := ⟨_, rfl⟩
  rw [← hd] at A0
  have hlt : decide (d < 0) = decide (ltI x y) := by
    apply decide_eq_decide.2
    rw [hd]
    unfold ltI
    split <;> omega
  have HA := Lib.hid A0
  have HD := Lib.hid hlt
  rw [← hlt]
  clear hd hlt A0
  have i0 : (0 : Int) ≤ (i : Int) := by omega
  have i1 : (i : Int) < l.length := by omega
  have k0 : (0 : Int) ≤ (k : Int) := by omega
  have k1 : (k : Int) < l.length := by omega
  have hq := h.ltq
  clear hcl h hfr hi hk
  go_enter Try.func72, Try.ntmps72
  go_wp2
  refine wp_soft0 17 (by kernel_rfl) (by kernel_rfl) (tail_end (by kernel_rfl)) ?_
  simp only [List.take_succ_cons, List.take_zero]
  repeat (first | (refine softLex_step (by rfl) (by rfl) (fun K hK => ?_); go_simp; first | (refine hK _ ?_; clear hK K) | (apply Exists.intro; refine ⟨fun x => ?_, hK _ ?_⟩; (with_reducible exact HA.out _); clear hK K)))
  refine softLex_nil ?_
  intro w1 hb1
  go_wp2
  go_returns
  exact ⟨rfl, hb1⟩
end Go.Proofs.Ytickfnedplbleaa
