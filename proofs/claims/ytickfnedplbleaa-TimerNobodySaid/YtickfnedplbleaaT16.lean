/- A queue that is not there. -/
import Derived.Test.YtickfnedplbleaaT3
import Derived.LoopTactic
namespace Go.Proofs.Ytickfnedplbleaa
open Go.RowKit
attribute [local go_sem] cell_over frozen_over lt_over le_over ne_over over_ne cell_set_same softAt softUpon lightUpon heavyUpon cell_kept frozen_kept

theorem nset_any (id a : Int) (w : World) : Calls Try.prog 15 #[.pointer none, .int .i64 id, .int .i64 a] w fun e w' => e = .returned (.int .i64 1) ∧ Below w.heap.size w w' := by
  go_enter Try.func15, Try.ntmps15
  go_wp2
  go_returns
  exact ⟨rfl, Below.refl _ _⟩
theorem nstop_any (id : Int) (w : World) : Calls Try.prog 9 #[.pointer none, .int .i64 id] w fun e w' => e = .returned (.bool false) ∧ Below w.heap.size w w' := by
  go_enter Try.func9, Try.ntmps9
  go_wp2
  go_returns
  exact ⟨rfl, Below.refl _ _⟩
theorem nwhen_any (id : Int) (w : World) : Calls Try.prog 18 #[.pointer none, .int .i64 id] w fun e w' => e = .returned (.tuple #[.int .i64 0, .bool false]) ∧ Below w.heap.size w w' := by
  go_enter Try.func18, Try.ntmps18
  go_wp2
  go_returns
  exact ⟨rfl, Below.refl _ _⟩
theorem nlen_any (w : World) : Calls Try.prog 20 #[.pointer none] w fun e w' => e = .returned (.int .i64 0) ∧ Below w.heap.size w w' := by
  go_enter Try.func20, Try.ntmps20
  go_wp2
  go_returns
  exact ⟨rfl, Below.refl _ _⟩
theorem nlist_any (w : World) : Calls Try.prog 21 #[.pointer none] w fun e w' => e = .returned (.slice none 0 0) ∧ Below w.heap.size w w' := by
  go_enter Try.func21, Try.ntmps21
  go_wp2
  go_returns
  exact ⟨rfl, Below.refl _ _⟩
/-- Two results, the first one a struct in memory. -/
theorem results_row_tmp' {P : Program} {fn : Func} {p u : Tmp} {ty : TypeId} (h : fn.results = #[.cell p ty, .tmp u]) (tmps : Array Value) (w : World) (g : Nat) (t : TypeId) (cs : Array Value) (fr : Nat × Nat) (d : TypeDesc)
    (hp : tmps.getD p undef = .pointer (some ⟨g, 0, none⟩)) (hg : w.heap[g]? = some (.cells cs t fr))
    (hu : P.underlying ty = some d) (hd : (match d with | .struct _ | .array _ _ => true | _ => false) = true) (hi : (P.info? ty).map (·.size) = some cs.size) :
    (results fn tmps).run P w = .ok (.tuple #[.agg cs, tmps.getD u undef]) w := by
  rw [results_cell_tmp h, hp]
  simp [asAddr, run_loadVar_row w g t ty cs fr d hg hu hd hi]
theorem nnext_any (w : World) : Calls Try.prog 17 #[.pointer none] w fun e w' => e = .returned (.tuple #[.agg #[.int .i64 0, .int .i64 0], .bool false]) ∧ Below w.heap.size w w' := by
  have HB := Lib.hid (Below.refl w.heap.size w)
  go_enter Try.func17, Try.ntmps17
  go_wp2_with (first | ((with_reducible refine (nlen_any _).mono ?_); rintro e w2 ⟨rfl, hb⟩; obtain ⟨pt, hpt⟩ : ∃ pt, pt = w.heap.size := ⟨_, rfl⟩; have ht := blk_grow hb (blk_new (o := .cells #[.int .i64 0, .int .i64 0] 43 (0, 0)) hpt); have B2 := Lib.hid (bt (bta HB.out _) hb); have HT := Lib.hid ht; have HPT := Lib.hid hpt; rw [← hpt]; have d1 : w2.cell? ⟨pt, 0, none⟩ = some (.int .i64 0) := blk_cell ht 0; have d2 : w2.cell? ⟨pt, 1, none⟩ = some (.int .i64 0) := blk_cell ht 1; have d3 := blk_free ht 0; have d4 := blk_free ht 1; clear hb ht hpt))
  exact bodyPost_ret (results_row_tmp' Try.results17 _ _ pt 43 _ _ _ rfl (blk_set (blk_set HT.out 0 _) 1 _) Try.underlying43 rfl (by kernel_rfl)) rfl ⟨rfl, bst (bst B2.out (by rw [HPT.out]; exact Nat.le_refl _) _) (by rw [HPT.out]; exact Nat.le_refl _) _⟩
theorem ndue_any (now : Int) (w : World) : Calls Try.prog 11 #[.pointer none, .int .i64 now] w fun e w' => e = .returned (.slice none 0 0) ∧ Below w.heap.size w w' := by
  go_enter Try.func11, Try.ntmps11
  go_wp2
  refine wp_loop_rounds 1 ?_
  rw [rounds_succ]
  go_wp2_with (first | ((with_reducible refine (nnext_any _).mono ?_); rintro e w2 ⟨rfl, hb⟩; have B2 := Lib.hid hb; clear hb))
  go_returns
  exact ⟨rfl, bta B2.out _⟩
end Go.Proofs.Ytickfnedplbleaa
