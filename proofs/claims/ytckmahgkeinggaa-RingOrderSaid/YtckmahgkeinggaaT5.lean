/- The contract of Drop of the package ring, where the bytes that go need not go round: they are cleared, and nothing else that stood before is turned. -/
import Derived.Test.YtckmahgkeinggaaT4
namespace Go.Proofs.Ytckmahgkeinggaa
open Go.RowKit
attribute [local go_sem] cell_over frozen_over lt_over le_over ne_over over_ne cell_set_same softAt softUpon

def zeros (n : Nat) : List Value := List.replicate n (.int .u8 0)

theorem clear_row (w : World) (pc o n c : Nat) (cur : List Value) (ty : TypeId) (hg : w.heap[pc]? = some (.cells cur.toArray 5 (0, 0))) (hn : 0 < n) (hfit : o + n ≤ cur.length) :
    (Builtin.clear_ #[33] ty #[.slice (some ⟨pc, o, none⟩) n c]).run Try.prog w = .ok (.tuple #[]) (w.setRow pc (put cur o (zeros n)).toArray) := by
  obtain ⟨i0, hi, hz0, hz1, hz2⟩ := info_parts info5
  have hv : ∀ w, (zeroValue 5).run Try.prog w = .ok (.int .u8 0) w := fun w => by simp [zeroValue, typeInfo, hi, hz0]
  have hzc : (Builtin.zeroCells (Value.cells (.int .u8 0)) n).toList = zeros n := by
    simp [Builtin.zeroCells, Value.cells, zeros]
    apply List.ext_getElem
    · simp
    · intro i h1 h2
      simp [Nat.mod_one]
  have hst := run_storeCells_at Try.prog pc o 5 (zeros n) 0 cur.toArray w hg (by simp [zeros]; omega) (by intro v hv'; rw [List.eq_of_mem_replicate hv']; rfl)
  simp only [Nat.add_zero] at hst
  unfold zeros at hst hzc
  obtain ⟨m, rfl⟩ : ∃ m, n = m + 1 := ⟨n - 1, by omega⟩
  simp [Builtin.clear_, run_underlying Try.underlying33, hv, hzc, hst, put, zeros]
theorem clear_none (w : World) (a : Option Addr) (c : Nat) (ty : TypeId) : (Builtin.clear_ #[33] ty #[.slice a 0 c]).run Try.prog w = .ok (.tuple #[]) w := by
  cases a <;> simp [Builtin.clear_, run_underlying Try.underlying33]

set_option maxHeartbeats 2000000 in
theorem drop_flat {w : World} {pr pc m : Nat} {h k t : Int} {cur : List Value} (hm : InMem w pr pc m h k t cur) (n : Int) (a h' n' : Nat) (n1 : 1 ≤ n) (hh : (a : Int) = h) (hh' : (h' : Int) = (h + n') % m)
    (hn0 : 0 < n') (hn : (n' : Int) = if k < n then k else n) (hfit : a + n' ≤ m) :
    Calls Try.prog 12 #[.pointer (some ⟨pr, 0, none⟩), .int .i64 n] w fun e w' => e = .returned (.int .i64 n') ∧ Touch w w' pr pc ∧ InMem w' pr pc m h' (k - n') t (put cur a (zeros n')) := by
  subst hh
  have hk := hm.k1
  have p2 : (n' : Int) ≤ k := by rw [hn]; split <;> omega
  have Ln := fun W hW => len_any (w := W) (pr := pr) (pc := pc) (m := m) (h := a) (k := k) (t := t) hW
  have A := fun W hW => at_any (w := W) (pr := pr) (pc := pc) (m := m) (h := a) (k := k) (t := t) n' hW hm.m2 hm.m1 hm.h0 (Int.le_of_lt hm.h1) (by omega) (by have := hm.m2; omega)
  rw [← hh'] at A
  have hr := hm.ring
  have hcells := hm.cells
  have m1 := hm.m1
  have m2 := hm.m2
  have ne := hm.ne
  have hlt' : (h' : Int) < m := by rw [hh']; exact Int.emod_lt_of_pos _ (by omega)
  have p1 : 0 < (n' : Int) := by omega
  have HN := Lib.hid hn
  have HL := Lib.hid Ln
  have HA := Lib.hid A
  have HR0 := Lib.hid hr
  clear Ln A hn hr hh'
  go_enter Try.func12, Try.ntmps12
  go_upto_region 2 with (first
    | ((with_reducible refine (HL.out w HR0.out).mono ?_); rintro e w1 ⟨rfl, hb1⟩))
  rw [← HN.out]
  have r1 := blk_grow hb1 HR0.out
  have c1 := blk_grow hb1 hcells
  have T1 := (Touch.refl w pr pc).grow hb1 (blk_lt HR0.out)
  unfold ringO at r1
  obtain ⟨a0, a1, a2, a3, a4, a5, a6, a7, a8⟩ := cells4 r1
  have e1 : ¬ (n' : Int) < 1 := by omega
  have e2 : IntKind.i64.wrap ((m : Int) - a) = (m : Int) - a := IntWalk.i64_in _ (by omega)
  have e3 : (if (m : Int) - a < n' then (m : Int) - a else (n' : Int)) = n' := by split <;> omega
  have e4 : IntKind.i64.wrap ((a : Int) + n') = (a : Int) + n' := IntWalk.i64_in _ (by omega)
  have e5 : (a : Int) ≤ (a : Int) + n' := by omega
  have e6 : (a : Int) + n' ≤ m := by omega
  have e7 : IntKind.i64.wrap ((m : Int) - (a : Int)) = (m : Int) - a := e2
  have e8 : ¬ m = a := by omega
  have e9 : ((a : Int) + n').toNat - a = n' := by omega
  have e10 : (0 : Int) ≤ (a : Int) := by omega
  clear hb1 hcells
  go_wp2
  refine wp_soft0 13 (by kernel_rfl) (by kernel_rfl) (tail_end (by kernel_rfl)) ?_
  simp only [List.take_succ_cons, List.take_zero]
  repeat (first | (refine softLex_step (by rfl) (by rfl) (fun K hK => ?_); go_simp; (refine hK _ ?_; clear hK K)))
  refine softLex_nil ?_
  intro w2 hb2
  replace r1 := blk_grow hb2 r1
  replace c1 := blk_grow hb2 c1
  replace T1 := T1.grow hb2 a4
  clear hb2 a0 a1 a2 a3 a4 a5 a6 a7 a8
  obtain ⟨a0, a1, a2, a3, a4, a5, a6, a7, a8⟩ := cells4 r1
  go_wp2
  refine wp_soft0 15 (by kernel_rfl) (by kernel_rfl) (tail_seq (by kernel_rfl)) ?_
  simp only [List.take_succ_cons, List.take_zero]
  repeat (first | (refine softLex_step (by rfl) (by rfl) (fun K hK => ?_); go_simp; (refine hK _ ?_; clear hK K)))
  refine softLex_nil ?_
  intro w3 hb3
  replace r1 := blk_grow hb3 r1
  replace c1 := blk_grow hb3 c1
  replace T1 := T1.grow hb3 a4
  have hcl := fun ty => clear_row w3 pc a n' (m - a) cur ty c1 hn0 (by have := hm.len; omega)
  clear hb3 a0 a1 a2 a3 a4 a5 a6 a7 a8
  have r4 := (setRow_other w3 pc pr (put cur a (zeros n')).toArray ne).trans r1
  have c4 := setRow_heap w3 pc _ (put cur a (zeros n')).toArray _ _ c1
  have T4 := T1.row (put cur a (zeros n')).toArray
  have hlen2 : (put cur a (zeros n')).length = m := by rw [put_len _ _ _ (by simp [zeros]; have := hm.len; omega)]; exact hm.len
  generalize hq : put cur a (zeros n') = cur2 at *
  have HQ := Lib.hid hq
  clear hq r1 c1 T1
  have hcl2 := fun (W : World) (x : Option Addr) (c' : Nat) (ty : TypeId) => clear_none W x c' ty
  simp only [List.drop_succ_cons, List.drop_zero]
  obtain ⟨w4, hw4⟩ : ∃ w4, w4 = w3.setRow pc cur2.toArray := ⟨_, rfl⟩
  rw [← hw4] at r4 c4 T4 hcl
  clear hw4
  obtain ⟨a0, a1, a2, a3, a4, a5, a6, a7, a8⟩ := cells4 r4
  have HR4 := Lib.hid (show w4.heap[pr]? = some (ringO pc m a k t) from r4)
  have e11 : IntKind.i64.wrap (k - n') = k - n' := IntWalk.i64_in _ (by omega)
  go_wp2_with (first
    | ((with_reducible refine (HA.out _ HR4.out).mono ?_); rintro e w5 ⟨rfl, hb5⟩;
        replace r4 := blk_grow hb5 r4; replace c4 := blk_grow hb5 c4; replace T4 := T4.grow hb5 a4; clear hb5 a0 a1 a2 a3 a4 a5 a6 a7 a8; obtain ⟨a0, a1, a2, a3, a4, a5, a6, a7, a8⟩ := cells4 r4; have f1 := blk_free r4 1; have f2 := blk_free r4 2))
  all_goals go_returns
  all_goals rw [HQ.out]
  all_goals refine ⟨rfl, (T4.cell 1 _).cell 2 _, ?_⟩
  all_goals exact { ring := (blk_set (blk_set r4 1 _) 2 _).trans rfl, cells := ((blk_far (Ne.symm ne)).trans (blk_far (Ne.symm ne))).trans c4, len := hlen2, ne := ne, m1 := m1, m2 := m2, h0 := by omega, h1 := hlt', k0 := by omega, k1 := by omega }
end Go.Proofs.Ytckmahgkeinggaa
