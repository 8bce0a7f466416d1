/- The contracts of the small functions of the package tune: row, values, ends, First and bent; each leaves all memory that stood before as it was. -/
import Derived.Test.YtgjajliiichfmaaProg
import Derived.Test.YtgjajliiichfmaaH
import Derived.Test.YtgjajliiichfmaaS
import Derived.WalkKit
import Derived.WalkSpells
import Derived.WalkLawsBesides
import Derived.Handy
import Derived.Laws.ResultCell
import Derived.Deep.Light
import Derived.Lib.Hide
namespace Go.Proofs.Ytgjajliiichfmaa
open Go.RowKit
attribute [local go_sem] cell_over frozen_over lt_over le_over ne_over over_ne cell_set_same softAt softUpon

theorem bov {a w : World} (h : Below a.heap.size a w) (x : World) : Below a.heap.size a (over w x) := bt h (over_below w x)
theorem bst {a b : World} (h : Below a.heap.size a b) {p : Addr} (hp : a.heap.size ≤ p.block) (v : Value) : Below a.heap.size a (b.setCell p v) := h.setCell hp v

theorem cells4 {w : World} {b : Nat} {x0 x1 x2 x3 : Value} {t : TypeId} (h : w.heap[b]? = some (.cells #[x0, x1, x2, x3] t (0, 0))) :
    w.cell? ⟨b, 0, none⟩ = some x0 ∧ w.cell? ⟨b, 1, none⟩ = some x1 ∧ w.cell? ⟨b, 2, none⟩ = some x2 ∧ w.cell? ⟨b, 3, none⟩ = some x3 ∧ b < w.heap.size ∧ b < w.heap.size + 1 ∧ b < w.heap.size + 1 + 1 ∧ b ≠ w.heap.size ∧ b ≠ w.heap.size + 1 := by
  have := blk_lt h
  exact ⟨blk_cell h 0, blk_cell h 1, blk_cell h 2, blk_cell h 3, this, by omega, by omega, by omega, by omega⟩

/-- A goal at which the walk halts. -/
def Halted (p : Prop) : Prop := p
theorem unhalt {p : Prop} (h : Halted p) : p := h
theorem set4 {w : World} {b : Nat} {x0 x1 x2 x3 : Value} {t : TypeId} (h : w.heap[b]? = some (.cells #[x0, x1, x2, x3] t (0, 0))) (v0 v1 v2 v3 : Value) :
    ((((w.setCell ⟨b, 0, none⟩ v0).setCell ⟨b, 1, none⟩ v1).setCell ⟨b, 2, none⟩ v2).setCell ⟨b, 3, none⟩ v3).heap[b]? = some (.cells #[v0, v1, v2, v3] t (0, 0)) :=
  blk_set (blk_set (blk_set (blk_set h 0 _) 1 _) 2 _) 3 _
theorem far4 {w : World} {b p : Nat} {o : Obj} (h : w.heap[b]? = some o) (hn : b ≠ p) (v0 v1 v2 v3 : Value) :
    ((((w.setCell ⟨p, 0, none⟩ v0).setCell ⟨p, 1, none⟩ v1).setCell ⟨p, 2, none⟩ v2).setCell ⟨p, 3, none⟩ v3).heap[b]? = some o := by
  rw [blk_far hn, blk_far hn, blk_far hn, blk_far hn]
  exact h
theorem bst4 {a b : World} {p : Nat} (h : Below a.heap.size a b) (hp : a.heap.size ≤ p) (v0 v1 v2 v3 : Value) :
    Below a.heap.size a ((((b.setCell ⟨p, 0, none⟩ v0).setCell ⟨p, 1, none⟩ v1).setCell ⟨p, 2, none⟩ v2).setCell ⟨p, 3, none⟩ v3) := bst (bst (bst (bst h hp _) hp _) hp _) hp _

/-- row -/
theorem row_any (a b c d : Int) (w : World) : Calls Try.prog 12 #[.agg #[.int .i64 a, .int .i64 b, .int .i64 c, .int .i64 d]] w fun e w' => e = .returned (.agg #[.int .i64 a, .int .i64 b, .int .i64 c, .int .i64 d]) ∧ Below w.heap.size w w' := by
  go_enter Try.func12, Try.ntmps12
  go_wp2
  go_returns
  exact ⟨rfl, by go_grown⟩
/-- values -/
theorem values_any (a b c d : Int) (w : World) : Calls Try.prog 16 #[.agg #[.int .i64 a, .int .i64 b, .int .i64 c, .int .i64 d]] w fun e w' => e = .returned (.agg #[.int .i64 a, .int .i64 b, .int .i64 c, .int .i64 d]) ∧ Below w.heap.size w w' := by
  go_enter Try.func16, Try.ntmps16
  go_wp2
  go_returns
  exact ⟨rfl, by go_grown⟩
theorem ends_any (w : World) : Calls Try.prog 17 #[] w fun e w' => e = .returned (.tuple #[.agg #[.int .i64 0, .int .i64 1, .int .i64 1, .int .i64 1], .agg #[.int .i64 8, .int .i64 4096, .int .i64 1048576, .int .i64 32]]) ∧ Below w.heap.size w w' := by
  go_enter Try.func17, Try.ntmps17
  go_wp2
  go_returns
  exact ⟨rfl, by go_grown⟩
theorem first_any (w : World) : Calls Try.prog 14 #[] w fun e w' => e = .returned (.agg #[.int .i64 8, .int .i64 256, .int .i64 4096, .int .i64 32]) ∧ Below w.heap.size w w' := by
  go_enter Try.func14, Try.ntmps14
  go_wp2
  go_returns
  exact ⟨rfl, by go_grown⟩

end Go.Proofs.Ytgjajliiichfmaa
