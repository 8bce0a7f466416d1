/- The contract of Drop of the package ring, where the bytes that go, go round. -/
import Derived.Test.YtckmahgkeinggaaT5
namespace Go.Proofs.Ytckmahgkeinggaa
open Go.RowKit
attribute [local go_sem] cell_over frozen_over lt_over le_over ne_over over_ne cell_set_same softAt softUpon

set_option maxHeartbeats 2000000 in
theorem drop_round {w : World} {pr pc m : Nat} {h k t : Int} {cur : List Value} (hm : InMem w pr pc m h k t cur) (n : Int) (a h' n' : Nat) (n1 : 1 ≤ n) (hh : (a : Int) = h) (hh' : (h' : Int) = (h + n') % m)
    (hn0 : 0 < n') (hn : (n' : Int) = if k < n then k else n) (f' : Nat) (hf0 : 0 < f') (hfm : a + f' = m) (hfit : f' < n') :
    Calls Try.prog 12 #[.pointer (some ⟨pr, 0, none⟩), .int .i64 n] w fun e w' => e = .returned (.int .i64 n') ∧ Touch w w' pr pc ∧ InMem w' pr pc m h' (k - n') t (put (put cur a (zeros f')) 0 (zeros (n' - f'))) := by
  subst hh
  have hk := hm.k1
  have p2 : (n' : Int) ≤ k := by rw [hn]; split <;> omega
  have Ln := fun W hW => len_any (w := W) (pr := pr) (pc := pc) (m := m) (h := a) (k := k) (t := t) hW
  have A := fun W hW => at_any (w := W) (pr := pr) (pc := pc) (m := m) (h := a) (k := k) (t := t) n' hW hm.m2 hm.m1 hm.h0 (Int.le_of_lt hm.h1) (by omega) (by have := hm.m2; omega)
  rw [← hh'] at A
  have hr := hm.ring
  have hcells := hm.cells
  have m1 := hm.m1
  have m2 := hm.m2
  have ne := hm.ne
  have hlt' : (h' : Int) < m := by rw [hh']; exact Int.emod_lt_of_pos _ (by omega)
  have p1 : 0 < (n' : Int) := by omega
  have HN := Lib.hid hn
  have HL := Lib.hid Ln
  have HA := Lib.hid A
  have HR0 := Lib.hid hr
  clear Ln A hn hr hh'
  go_enter Try.func12, Try.ntmps12
  go_upto_region 2 with (first
    | ((with_reducible refine (HL.out w HR0.out).mono ?_); rintro e w1 ⟨rfl, hb1⟩))
  rw [← HN.out]
  have r1 := blk_grow hb1 HR0.out
  have c1 := blk_grow hb1 hcells
  have T1 := (Touch.refl w pr pc).grow hb1 (blk_lt HR0.out)
  unfold ringO at r1
  obtain ⟨a0, a1, a2, a3, a4, a5, a6, a7, a8⟩ := cells4 r1
  have e1 : ¬ (n' : Int) < 1 := by omega
  have e2 : IntKind.i64.wrap ((m : Int) - a) = (m : Int) - a := IntWalk.i64_in _ (by omega)
  have e3 : (if (m : Int) - a < n' then (m : Int) - a else (n' : Int)) = f' := by split <;> omega
  have e4 : IntKind.i64.wrap ((a : Int) + f') = (a : Int) + f' := IntWalk.i64_in _ (by omega)
  have e5 : (a : Int) ≤ (a : Int) + f' := by omega
  have e6 : (a : Int) + f' ≤ m := by omega
  have e7 : IntKind.i64.wrap ((m : Int) - (a : Int)) = (m : Int) - a := e2
  have e8 : ¬ m = a := by omega
  have e9 : ((a : Int) + f').toNat - a = f' := by omega
  have e12 : m - a = f' := by omega
  obtain ⟨g, hg⟩ : ∃ g, n' - f' = g := ⟨_, rfl⟩
  have hg0 : 0 < g := by omega
  have e13 : IntKind.i64.wrap ((n' : Int) - f') = g := by rw [show (n' : Int) - f' = g by omega]; exact IntWalk.i64_in _ (by omega)
  have e14 : (n' : Int) - f' = g := by omega
  have e15 : (0 : Int) ≤ g := by omega
  have e16 : (g : Int) ≤ m := by omega
  have e10 : (0 : Int) ≤ (a : Int) := by omega
  clear hb1 hcells
  go_wp2
  refine wp_soft0 13 (by kernel_rfl) (by kernel_rfl) (tail_end (by kernel_rfl)) ?_
  simp only [List.take_succ_cons, List.take_zero]
  repeat (first | (refine softLex_step (by rfl) (by rfl) (fun K hK => ?_); go_simp; (refine hK _ ?_; clear hK K)))
  refine softLex_nil ?_
  intro w2 hb2
  replace r1 := blk_grow hb2 r1
  replace c1 := blk_grow hb2 c1
  replace T1 := T1.grow hb2 a4
  clear hb2 a0 a1 a2 a3 a4 a5 a6 a7 a8
  obtain ⟨a0, a1, a2, a3, a4, a5, a6, a7, a8⟩ := cells4 r1
  go_wp2
  refine wp_soft0 15 (by kernel_rfl) (by kernel_rfl) (tail_seq (by kernel_rfl)) ?_
  simp only [List.take_succ_cons, List.take_zero]
  repeat (first | (refine softLex_step (by rfl) (by rfl) (fun K hK => ?_); go_simp; (refine hK _ ?_; clear hK K)))
  refine softLex_nil ?_
  intro w3 hb3
  replace r1 := blk_grow hb3 r1
  replace c1 := blk_grow hb3 c1
  replace T1 := T1.grow hb3 a4
  have hcl := fun ty => clear_row w3 pc a f' f' cur ty c1 hf0 (by have := hm.len; omega)
  clear hb3 a0 a1 a2 a3 a4 a5 a6 a7 a8
  have r4 := (setRow_other w3 pc pr (put cur a (zeros f')).toArray ne).trans r1
  have c4 := setRow_heap w3 pc _ (put cur a (zeros f')).toArray _ _ c1
  have T4 := T1.row (put cur a (zeros f')).toArray
  have hlen2 : (put cur a (zeros f')).length = m := by rw [put_len _ _ _ (by simp [zeros]; have := hm.len; omega)]; exact hm.len
  generalize hq : put cur a (zeros f') = cur2 at *
  have HQ := Lib.hid hq
  clear hq r1 c1 T1
  simp only [List.drop_succ_cons, List.drop_zero]
  obtain ⟨w4, hw4⟩ : ∃ w4, w4 = w3.setRow pc cur2.toArray := ⟨_, rfl⟩
  rw [← hw4] at r4 c4 T4 hcl
  clear hw4
  have hcl2 := fun ty => clear_row w4 pc 0 g m cur2 ty c4 hg0 (by omega)
  have T5 := T4.row (put cur2 0 (zeros g)).toArray
  have r5 := (setRow_other w4 pc pr (put cur2 0 (zeros g)).toArray ne).trans r4
  have c5 := setRow_heap w4 pc _ (put cur2 0 (zeros g)).toArray _ _ c4
  have hlen3 : (put cur2 0 (zeros g)).length = m := by rw [put_len _ _ _ (by simp [zeros]; omega)]; exact hlen2
  generalize hq3 : put cur2 0 (zeros g) = cur3 at *
  have HQ3 := Lib.hid hq3
  have HG := Lib.hid hg
  clear hq3 hg
  obtain ⟨a0, a1, a2, a3, a4, a5, a6, a7, a8⟩ := cells4 r4
  obtain ⟨w5, hw5⟩ : ∃ w5, w5 = w4.setRow pc cur3.toArray := ⟨_, rfl⟩
  rw [← hw5] at T5 r5 c5 hcl2
  clear hw5
  obtain ⟨b0, b1, b2, b3, b4, b5, b6, b7, b8⟩ := cells4 r5
  have HR5 := Lib.hid (show w5.heap[pr]? = some (ringO pc m a k t) from r5)
  have e11 : IntKind.i64.wrap (k - n') = k - n' := IntWalk.i64_in _ (by omega)
  go_wp2_with (first
    | ((with_reducible refine (HA.out _ HR5.out).mono ?_); rintro e w6 ⟨rfl, hb6⟩;
        replace r5 := blk_grow hb6 r5; replace c5 := blk_grow hb6 c5; replace T5 := T5.grow hb6 b4; clear hb6 a0 a1 a2 a3 a4 a5 a6 a7 a8 b0 b1 b2 b3 b4 b5 b6 b7 b8; obtain ⟨a0, a1, a2, a3, a4, a5, a6, a7, a8⟩ := cells4 r5; have f1 := blk_free r5 1; have f2 := blk_free r5 2))
  all_goals go_returns
  all_goals rw [HG.out, HQ.out, HQ3.out]
  all_goals refine ⟨rfl, (T5.cell 1 _).cell 2 _, ?_⟩
  all_goals exact { ring := (blk_set (blk_set r5 1 _) 2 _).trans rfl, cells := ((blk_far (Ne.symm ne)).trans (blk_far (Ne.symm ne))).trans c5, len := hlen3, ne := ne, m1 := m1, m2 := m2, h0 := by omega, h1 := hlt', k0 := by omega, k1 := by omega }
end Go.Proofs.Ytckmahgkeinggaa
