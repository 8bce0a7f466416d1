/- The contracts of the functions of the package ring that only read: at, Len, Room, Total, of one that is there, and of one that is not; each leaves all memory that stood before as it was. -/
import Derived.Test.YtckmahgkeinggaaProg
import Derived.Test.YtckmahgkeinggaaH
import Derived.Test.YtckmahgkeinggaaS
import Derived.WalkKit
import Derived.WalkSpells
import Derived.WalkLawsBesides
import Derived.Handy
import Derived.Laws.ResultCell
import Derived.Deep.Light
import Derived.Lib.Hide
namespace Go.Proofs.Ytckmahgkeinggaa
open Go.RowKit
attribute [local go_sem] cell_over frozen_over lt_over le_over ne_over over_ne cell_set_same softAt softUpon

theorem bov {a w : World} (h : Below a.heap.size a w) (x : World) : Below a.heap.size a (over w x) := bt h (over_below w x)
theorem bst {a b : World} (h : Below a.heap.size a b) {p : Addr} (hp : a.heap.size ≤ p.block) (v : Value) : Below a.heap.size a (b.setCell p v) := h.setCell hp v
theorem cells4 {w : World} {b : Nat} {x0 x1 x2 x3 : Value} {t : TypeId} (h : w.heap[b]? = some (.cells #[x0, x1, x2, x3] t (0, 0))) :
    w.cell? ⟨b, 0, none⟩ = some x0 ∧ w.cell? ⟨b, 1, none⟩ = some x1 ∧ w.cell? ⟨b, 2, none⟩ = some x2 ∧ w.cell? ⟨b, 3, none⟩ = some x3 ∧ b < w.heap.size ∧ b < w.heap.size + 1 ∧ b < w.heap.size + 1 + 1 ∧ b ≠ w.heap.size ∧ b ≠ w.heap.size + 1 := by
  have := blk_lt h
  exact ⟨blk_cell h 0, blk_cell h 1, blk_cell h 2, blk_cell h 3, this, by omega, by omega, by omega, by omega⟩
/-- A goal at which the walk halts. -/
def Halted (p : Prop) : Prop := p
theorem unhalt {p : Prop} (h : Halted p) : p := h

/-- A ring's struct: its cells' block, how many cells there are, where the first byte stands, how many bytes there are, and how many there were. -/
def ringO (pc m : Nat) (h k t : Int) : Obj := .cells #[.slice (some ⟨pc, 0, none⟩) m m, .int .i64 h, .int .i64 k, .int .i64 t] 53 (0, 0)

theorem len_any {w : World} {pr pc m : Nat} {h k t : Int} (hr : w.heap[pr]? = some (ringO pc m h k t)) : Calls Try.prog 15 #[.pointer (some ⟨pr, 0, none⟩)] w fun e w' => e = .returned (.int .i64 k) ∧ Below w.heap.size w w' := by
  unfold ringO at hr
  obtain ⟨a0, a1, a2, a3, a4, a5, a6, a7, a8⟩ := cells4 hr
  go_enter Try.func15, Try.ntmps15
  go_wp2
  go_returns
  exact ⟨rfl, Below.refl _ _⟩
theorem total_any {w : World} {pr pc m : Nat} {h k t : Int} (hr : w.heap[pr]? = some (ringO pc m h k t)) : Calls Try.prog 17 #[.pointer (some ⟨pr, 0, none⟩)] w fun e w' => e = .returned (.int .i64 t) ∧ Below w.heap.size w w' := by
  unfold ringO at hr
  obtain ⟨a0, a1, a2, a3, a4, a5, a6, a7, a8⟩ := cells4 hr
  go_enter Try.func17, Try.ntmps17
  go_wp2
  go_returns
  exact ⟨rfl, Below.refl _ _⟩
theorem room_any {w : World} {pr pc m : Nat} {h k t : Int} (hr : w.heap[pr]? = some (ringO pc m h k t)) (hm : m ≤ 4096) (h0 : 0 ≤ k) (h1 : k ≤ m) : Calls Try.prog 16 #[.pointer (some ⟨pr, 0, none⟩)] w fun e w' => e = .returned (.int .i64 ((m : Int) - k)) ∧ Below w.heap.size w w' := by
  unfold ringO at hr
  obtain ⟨a0, a1, a2, a3, a4, a5, a6, a7, a8⟩ := cells4 hr
  have e1 : IntKind.i64.wrap ((m : Int) - k) = (m : Int) - k := IntWalk.i64_in _ (by omega)
  go_enter Try.func16, Try.ntmps16
  go_wp2
  refine wp_soft0 11 (by kernel_rfl) (by kernel_rfl) (tail_end (by kernel_rfl)) ?_
  simp only [List.take_succ_cons, List.take_zero]
  repeat (refine softLex_step (by rfl) (by rfl) (fun K hK => ?_); go_simp; (refine hK _ ?_; clear hK K))
  refine softLex_nil ?_
  intro w5 hb5
  go_wp2
  go_returns
  exact ⟨rfl, hb5⟩
theorem at_any {w : World} {pr pc m : Nat} {h k t : Int} (p : Int) (hr : w.heap[pr]? = some (ringO pc m h k t)) (hm : m ≤ 4096) (m1 : 1 ≤ m) (h0 : 0 ≤ h) (h1 : h ≤ m) (p0 : 0 ≤ p) (p1 : p ≤ 4096) : Calls Try.prog 20 #[.pointer (some ⟨pr, 0, none⟩), .int .i64 p] w fun e w' => e = .returned (.int .i64 ((h + p) % m)) ∧ Below w.heap.size w w' := by
  unfold ringO at hr
  obtain ⟨a0, a1, a2, a3, a4, a5, a6, a7, a8⟩ := cells4 hr
  have e1 : IntKind.i64.wrap (h + p) = h + p := IntWalk.i64_in _ (by omega)
  have e2 : (h + p).tmod (m : Int) = (h + p) % m := Int.tmod_eq_emod_of_nonneg (by omega)
  have e3 : 0 ≤ (h + p) % (m : Int) := Int.emod_nonneg _ (by omega)
  have e4 : (h + p) % (m : Int) < m := Int.emod_lt_of_pos _ (by omega)
  have e5 : IntKind.i64.wrap ((h + p) % (m : Int)) = (h + p) % m := IntWalk.i64_in _ (by omega)
  have e6 : ¬ (m : Int) = 0 := by omega
  have e7 : ((m : Int) == 0) = false := by simp; omega
  have e8 : ¬ m = 0 := by omega
  go_enter Try.func20, Try.ntmps20
  go_wp2
  refine wp_soft0 13 (by kernel_rfl) (by kernel_rfl) (tail_end (by kernel_rfl)) ?_
  simp only [List.take_succ_cons, List.take_zero]
  repeat (refine softLex_step (by rfl) (by rfl) (fun K hK => ?_); go_simp; (refine hK _ ?_; clear hK K))
  refine softLex_nil ?_
  intro w5 hb5
  go_wp2
  go_returns
  exact ⟨rfl, hb5⟩
end Go.Proofs.Ytckmahgkeinggaa
