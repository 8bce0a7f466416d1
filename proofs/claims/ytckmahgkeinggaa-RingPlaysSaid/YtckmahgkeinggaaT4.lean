/- The contract of Peek of the package ring, where the bytes told need not go round: a slice of its own with them; all memory that stood before is left as it was. -/
import Derived.Test.YtckmahgkeinggaaT3
import Derived.Laws.MakeOwn
namespace Go.Proofs.Ytckmahgkeinggaa
open Go.RowKit
attribute [local go_sem] cell_over frozen_over lt_over le_over ne_over over_ne cell_set_same softAt softUpon

theorem info5 : (Try.prog.info? 5).map (fun i => (i.zero, i.size, i.bytes)) = some (some (.int .u8 0), 1, 1) := by kernel_rfl

/-- Bytes as values. -/
def Bytes1 (l : List Value) : Prop := ∀ v ∈ l, v.oneCell' = true

set_option maxHeartbeats 2000000 in
theorem peek_flat {w : World} {pr pc m : Nat} {h k t : Int} {cur : List Value} (hm : InMem w pr pc m h k t cur) (f n : Int) (a n' : Nat) (h1 : Bytes1 cur) (f0 : 0 ≤ f) (f1 : f ≤ k) (n1 : 1 ≤ n)
    (ha : (a : Int) = (h + f) % m) (hn0 : 0 < n') (hn : (n' : Int) = if k - f < n then k - f else n) (hfit : a + n' ≤ m) :
    Calls Try.prog 18 #[.pointer (some ⟨pr, 0, none⟩), .int .i64 f, .int .i64 n] w fun e w' => ∃ pb, e = .returned (.slice (some ⟨pb, 0, none⟩) n' n') ∧ w.heap.size ≤ pb ∧ Below w.heap.size w w' ∧ w'.heap[pb]? = some (.cells ((cur.drop a).take n').toArray 5 (0, 0)) := by
  have Ln := fun W hW => len_any (w := W) (pr := pr) (pc := pc) (m := m) (h := h) (k := k) (t := t) hW
  have A := fun W hW => at_any (w := W) (pr := pr) (pc := pc) (m := m) (h := h) (k := k) (t := t) f hW hm.m2 hm.m1 hm.h0 (Int.le_of_lt hm.h1) f0 (by have := hm.k1; have := hm.m2; omega)
  rw [← ha] at A
  have hr := hm.ring
  have hcells := hm.cells
  have m1 := hm.m1
  have m2 := hm.m2
  have k1 := hm.k1
  have p1 : 0 < (n' : Int) := by omega
  have p2 : (n' : Int) ≤ k - f := by rw [hn]; split <;> omega
  have HN := Lib.hid hn
  have HL := Lib.hid Ln
  have HA := Lib.hid A
  have HR0 := Lib.hid hr
  obtain ⟨i0, hi, hz0, hz1, hz2⟩ := info_parts info5
  have c1 : ¬ f < 0 := by omega
  have c2 : ¬ k < f := by omega
  have c3 : ¬ n < 1 := by omega
  have c4 : IntKind.i64.wrap (k - f) = k - f := IntWalk.i64_in _ (by omega)
  clear Ln A hn ha
  go_enter Try.func18, Try.ntmps18
  go_upto_region 4 with (first
    | ((with_reducible refine (HL.out w HR0.out).mono ?_); rintro e w1 ⟨rfl, hb1⟩)
    | ((with_reducible refine (HL.out _ (blk_grow hb1 HR0.out)).mono ?_); rintro e w2 ⟨rfl, hb2⟩))
  rw [← HN.out]
  have B2 := bt hb1 hb2
  have r2 := blk_grow B2 HR0.out
  have cc2 := blk_grow B2 hcells
  have e1 : ¬ (n' : Int) = 0 := by omega
  have e2 : ((n' : Int) == 0) = false := by simp; omega
  have hmk : (Instr.makeSlice 33 (.int .i64 (n' : Int)) (.int .i64 (n' : Int))).run Try.prog w2 = .ok (.slice (some ⟨w2.heap.size, 0, none⟩) n' n') (w2.alloc (.cells (madeCells #[.int .u8 0] n') 5)) := by
    have := run_makeSlice (P := Try.prog) w2 33 5 i0 (.int .u8 0) Try.underlying33 hi hz0 .i64 .i64 (n' : Int) (n' : Int) (by omega) (Int.le_refl _) (by rw [hz1]; simp; omega) (by rw [hz2]; omega) (by omega)
    rw [hz1] at this
    simpa [Value.cells] using this
  have hmk2 := hmk
  clear hmk
  unfold ringO at r2
  obtain ⟨a0, a1, a2, a3, a4, a5, a6, a7, a8⟩ := cells4 r2
  go_upto_region 7 with fail
  have hlt := blk_lt cc2
  have r3 := blk_old (o := .cells (madeCells #[.int .u8 0] n') 5 (0, 0)) r2
  have c3' := blk_old (o := .cells (madeCells #[.int .u8 0] n') 5 (0, 0)) cc2
  have h7 := blk_new (w := w2) (o := .cells (madeCells #[.int .u8 0] n') 5 (0, 0)) rfl
  have B3 := bta B2 (.cells (madeCells #[.int .u8 0] n') 5 (0, 0))
  have s7 := B2.size
  have nlt : pc ≠ w2.heap.size := by omega
  have nlt2 : pr ≠ w2.heap.size := Nat.ne_of_lt a4
  clear hmk2 r2 cc2 a0 a1 a2 a3 a4 a5 a6 a7 a8
  generalize w2.heap.size = pb at *
  generalize w2.alloc (.cells (madeCells #[.int .u8 0] n') 5 (0, 0)) = w3 at *
  obtain ⟨a0, a1, a2, a3, a4, a5, a6, a7, a8⟩ := cells4 r3
  have HR3 := Lib.hid (show w3.heap[pr]? = some (ringO pc m h k t) from r3)
  have e3 : IntKind.i64.wrap (a : Int) = a := IntWalk.i64_in _ (by omega)
  have e4 : (a : Int) ≤ m := by omega
  have e5 : ¬ m = a := by omega
  refine wp_soft0 9 (by kernel_rfl) (by kernel_rfl) (tail_seq (by kernel_rfl)) ?_
  simp only [List.take_succ_cons, List.take_zero]
  repeat (first | (refine softLex_step (by rfl) (by rfl) (fun K hK => ?_); go_simp; first | (refine hK _ ?_; clear hK K) | (apply Exists.intro; refine ⟨fun x => ?_, hK _ ?_⟩; (first | (with_reducible exact HA.out _ (blk_grow (over_below _ _) HR3.out))); clear hK K)))
  refine softLex_nil ?_
  intro w4 hb4
  replace r3 := blk_grow hb4 r3
  replace c3' := blk_grow hb4 c3'
  replace h7 := blk_grow hb4 h7
  have B4 := bt B3 hb4
  have hcl : ((cur.drop a).take n').length = n' := by simp; have := hm.len; omega
  have hsrc : ∀ j v, ((cur.drop a).take n')[j]? = some v → w4.cell? ((⟨pc, a, none⟩ : Addr).add j) = some v := by
    intro j v hj
    have hj2 : cur[a + j]? = some v := by
      rw [List.getElem?_take] at hj
      split at hj
      · rw [List.getElem?_drop] at hj; exact hj
      · cases hj
    have hcell : w4.cell? ⟨pc, a + j, none⟩ = some v := by rw [blk_cell c3']; simpa using hj2
    unfold Addr.add
    split
    · rename_i h0; subst h0; exact hcell
    · exact hcell
  have hcp : ∀ ty, (Builtin.copy_ #[33, 33] ty #[.slice (some ⟨pb, 0, none⟩) n' n', .slice (some ⟨pc, a, none⟩) (m - a) (m - a)]).run Try.prog w4 = .ok (.int .i64 n') (w4.setRow pb ((cur.drop a).take n').toArray) := by
    intro ty
    have := run_copy_row (P := Try.prog) w4 33 33 ty 5 pb 0 n' n' ⟨pc, a, none⟩ (m - a) (m - a) (madeCells #[.int .u8 0] n') 5 ((cur.drop a).take n') Try.underlying33 (by kernel_rfl) h7 (by rw [hcl]; exact (Nat.min_eq_right (by omega)).symm) hsrc (by rw [hcl, size_madeCells]; omega) (fun v hv => h1 v (List.mem_of_mem_drop (List.mem_of_mem_take hv)))
    rw [hcl] at this
    rw [this]
    have e : goInt n' = .int .i64 n' := by simp [goInt]
    have e2 : (madeCells #[.int .u8 0] n').toList.drop (0 + n') = [] := List.drop_eq_nil_of_le (by simp [size_madeCells])
    rw [e, e2]
    simp
  have HC := Lib.hid hcp
  clear hcp hsrc a0 a1 a2 a3 a4 a5 a6 a7 a8
  simp only [List.drop_succ_cons, List.drop_zero]
  have hcp := HC.out
  go_wp2
  have r5 := (setRow_other w4 pb pr ((cur.drop a).take n').toArray nlt2).trans r3
  have h5 := setRow_heap w4 pb _ ((cur.drop a).take n').toArray _ _ h7
  have B5 := below_setRow B4 s7 ((cur.drop a).take n').toArray
  generalize hq : (cur.drop a).take n' = out at *
  have HQ := Lib.hid hq
  clear hq hcp HC r3 c3' h7 B4 hb4
  generalize w4.setRow pb out.toArray = w5 at *
  obtain ⟨a0, a1, a2, a3, a4, a5, a6, a7, a8⟩ := cells4 r5
  have e6 : (0 : Int) ≤ n' := by omega
  refine wp_soft0 7 (by kernel_rfl) (by kernel_rfl) (tail_seq (by kernel_rfl)) ?_
  simp only [List.take_succ_cons, List.take_zero]
  repeat (first | (refine softLex_step (by rfl) (by rfl) (fun K hK => ?_); go_simp; (refine hK _ ?_; clear hK K)))
  refine softLex_nil ?_
  intro w6 hb6
  have B6 := bt B5 hb6
  have h6 := blk_grow hb6 h5
  have hcp2 : ∀ ty x c', (Builtin.copy_ #[33, 33] ty #[.slice x 0 c', .slice (some ⟨pc, 0, none⟩) m m]).run Try.prog w6 = .ok (.int .i64 0) w6 := by
    intro ty x c'
    exact run_copy_none (P := Try.prog) w6 33 33 ty 5 x _ 0 c' m m Try.underlying33 (by kernel_rfl) (by simp)
  simp only [List.drop_succ_cons, List.drop_zero]
  go_wp2
  all_goals go_returns
  all_goals rw [HQ.out]
  all_goals exact ⟨pb, rfl, s7, B6, h6⟩
end Go.Proofs.Ytckmahgkeinggaa
