/- The contracts of Worst of both packages: the worst verdict of as many as both lists have, whatever the lists. No conditions beyond the lists being bytes in memory. -/
import Derived.Test.YtppmjbjgcakieaaC3
import Derived.Test.YtppmjbjgcakieaaH
import Derived.Test.YtppmjbjgcakieaaS
import Derived.Lib.Hide
namespace Go.Proofs.Ytppmjbjgcakieaa
open Go.RowKit
attribute [local go_sem] softAt softUpon cell_over frozen_over

def worstV (xs ys : Nat → Nat) : Nat → Int × Int
  | 0 => (0, 0)
  | k + 1 => worseV (worstV xs ys k) (judV (xs k) (ys k))

set_option maxHeartbeats 1000000 in
theorem worst_any (a1 a2 : Option Addr) (n m c1 c2 : Nat) (xs ys : Nat → Nat) (w : World)
    (h1 : ∀ k, k < n → ∃ b o, a1 = some ⟨b, o, none⟩ ∧ w.cell? ⟨b, o + k, none⟩ = some (.int .u8 (xs k)))
    (h2 : ∀ k, k < m → ∃ b o, a2 = some ⟨b, o, none⟩ ∧ w.cell? ⟨b, o + k, none⟩ = some (.int .u8 (ys k)))
    (hn : n ≤ maxLen) (hm : m ≤ maxLen) :
    Calls Try.prog 16 #[.slice a1 n c1, .slice a2 m c2] w fun e w' => e = .returned (.agg #[.int .i64 (worstV xs ys (min n m)).1, .int .u32 (worstV xs ys (min n m)).2]) ∧ Below w.heap.size w w' := by
  unfold maxLen at hn hm
  have H1 := Lib.hid h1
  have H2 := Lib.hid h2
  clear h1 h2
  go_enter Try.func16, Try.ntmps16
  go_wp2
  all_goals
    go_loopw [12] (fun i wr => ∃ k : Nat, k ≤ min n m ∧ i = .int .i64 k ∧ Below w.heap.size w wr ∧ wr.heap[w.heap.size]? = some (.cells #[.int .i64 0, .int .u32 0] 27 (0, 0)) ∧ wr.heap[w.heap.size + 1]? = some (.cells #[.int .i64 (worstV xs ys k).1, .int .u32 (worstV xs ys k).2] 27 (0, 0)))
      (fun i _ => min n m - (intOf i).toNat)
    case atStart =>
      refine ⟨0, Nat.zero_le _, rfl, by go_grown, ?_, ?_⟩
      · exact blk_old (blk_new rfl)
      · exact blk_new (by simp)
    case round =>
      obtain ⟨k, hk, rfl, hb, hA, hB⟩ := hrel
      by_cases hlt : k < min n m
      · obtain ⟨b1, o1, rfl, g1⟩ := H1.out k (by omega)
        obtain ⟨b2, o2, rfl, g2⟩ := H2.out k (by omega)
        have q1 := cell_below hb g1
        have q2 := cell_below hb g2
        have c0 := blk_cell hB 0
        have c1 := blk_cell hB 1
        have f0 := blk_free hB 0
        have f1 := blk_free hB 1
        simp only [List.getElem?_toArray, List.getElem?_cons_zero, List.getElem?_cons_succ] at c0 c1
        have k0 : (0 : Int) ≤ (k : Int) := by omega
        have k1 : (k : Int) < (n : Int) := by omega
        have k2 : (k : Int) < (m : Int) := by omega
        have l1 := World.block_lt_of_cell? wr _ q1
        have l2 := World.block_lt_of_cell? wr _ q2
        have l3 := blk_lt hB
        go_wp2
        refine wp_soft0 11 (by kernel_rfl) (by kernel_rfl) (tail_seq (by kernel_rfl)) ?_
        simp only [List.take_succ_cons, List.take_zero]
        repeat (refine softLex_step (by rfl) (by rfl) (fun K hK => ?_); go_simp; first | (refine hK _ ?_; clear hK K) | (apply Exists.intro; refine ⟨fun x => ?_, hK _ ?_⟩; (first | exact judge_any _ _ _ | exact worse_any _ _ _ _ _); clear hK K))
        refine softLex_nil ?_
        intro w2 hb2
        have hB2 := blk_grow hb2 hB
        have hA2 := blk_grow hb2 hA
        have d0 := blk_cell hB2 0
        have d1 := blk_cell hB2 1
        have e0 := blk_free hB2 0
        have e1 := blk_free hB2 1
        simp only [List.getElem?_toArray, List.getElem?_cons_zero, List.getElem?_cons_succ] at d0 d1
        clear q1 q2 f0 f1 c0 c1 l1 l2 l3 hA hB g1 g2 k1 k2
        go_wp2
        go_roundw
        case rel =>
          refine ⟨k + 1, by omega, by go_num, ?_, ?_, ?_⟩
          · exact ((hb.trans (hb2.mono hb.size)).setCell (by simp) _).setCell (by simp) _
          · rw [blk_far (by simp), blk_far (by simp)]; exact hA2
          · exact blk_set (blk_set hB2 0 _) 1 _
        case measure => simp [intOf]; omega
      · have hkk : k = min n m := by omega
        have c0 := blk_cell hB 0
        have c1 := blk_cell hB 1
        have f0 := blk_free hA 0
        have f1 := blk_free hA 1
        have e0 := blk_cell hA 0
        have e1 := blk_cell hA 1
        simp only [List.getElem?_toArray, List.getElem?_cons_zero, List.getElem?_cons_succ] at c0 c1 e0 e1
        have HK := Lib.hid hkk
        clear hkk
        go_wp2
        refine bodyPost_ret (results_cell_row Try.results16 _ _ w.heap.size 27 _ _ _ rfl (blk_set (blk_set hA 0 _) 1 _) Try.underlying27 rfl (by kernel_rfl)) rfl ⟨?_, (hb.setCell (by simp) _).setCell (by simp) _⟩
        rw [← HK.out]
        rfl
set_option maxHeartbeats 1000000 in
theorem rworst_any (a1 a2 : Option Addr) (n m c1 c2 : Nat) (xs ys : Nat → Nat) (w : World)
    (h1 : ∀ k, k < n → ∃ b o, a1 = some ⟨b, o, none⟩ ∧ w.cell? ⟨b, o + k, none⟩ = some (.int .u8 (xs k)))
    (h2 : ∀ k, k < m → ∃ b o, a2 = some ⟨b, o, none⟩ ∧ w.cell? ⟨b, o + k, none⟩ = some (.int .u8 (ys k)))
    (hn : n ≤ maxLen) (hm : m ≤ maxLen) :
    Calls Try.prog 17 #[.slice a1 n c1, .slice a2 m c2] w fun e w' => e = .returned (.agg #[.int .i64 (worstV xs ys (min n m)).1, .int .i64 (worstV xs ys (min n m)).2]) ∧ Below w.heap.size w w' := by
  unfold maxLen at hn hm
  have H1 := Lib.hid h1
  have H2 := Lib.hid h2
  clear h1 h2
  go_enter Try.func17, Try.ntmps17
  go_wp2
  all_goals
    go_loopw [6] (fun i wr => ∃ k : Nat, k ≤ min n m ∧ i = .int .i64 k ∧ Below w.heap.size w wr ∧ wr.heap[w.heap.size]? = some (.cells #[.int .i64 0, .int .i64 0] 30 (0, 0)) ∧ wr.heap[w.heap.size + 1]? = some (.cells #[.int .i64 (worstV xs ys k).1, .int .i64 (worstV xs ys k).2] 30 (0, 0)))
      (fun i _ => min n m - (intOf i).toNat)
    case atStart =>
      refine ⟨0, Nat.zero_le _, rfl, by go_grown, ?_, ?_⟩
      · exact blk_old (blk_new rfl)
      · exact blk_new (by simp)
    case round =>
      obtain ⟨k, hk, rfl, hb, hA, hB⟩ := hrel
      by_cases hlt : k < min n m
      · obtain ⟨b1, o1, rfl, g1⟩ := H1.out k (by omega)
        obtain ⟨b2, o2, rfl, g2⟩ := H2.out k (by omega)
        have q1 := cell_below hb g1
        have q2 := cell_below hb g2
        have c0 := blk_cell hB 0
        have c1 := blk_cell hB 1
        have f0 := blk_free hB 0
        have f1 := blk_free hB 1
        simp only [List.getElem?_toArray, List.getElem?_cons_zero, List.getElem?_cons_succ] at c0 c1
        have k0 : (0 : Int) ≤ (k : Int) := by omega
        have k1 : (k : Int) < (n : Int) := by omega
        have k2 : (k : Int) < (m : Int) := by omega
        have l1 := World.block_lt_of_cell? wr _ q1
        have l2 := World.block_lt_of_cell? wr _ q2
        have l3 := blk_lt hB
        go_wp2
        refine wp_soft0 11 (by kernel_rfl) (by kernel_rfl) (tail_seq (by kernel_rfl)) ?_
        simp only [List.take_succ_cons, List.take_zero]
        repeat (refine softLex_step (by rfl) (by rfl) (fun K hK => ?_); go_simp; first | (refine hK _ ?_; clear hK K) | (apply Exists.intro; refine ⟨fun x => ?_, hK _ ?_⟩; (first | exact rjudge_any _ _ _ | exact rworse_any _ _ _ _ _); clear hK K))
        refine softLex_nil ?_
        intro w2 hb2
        have hB2 := blk_grow hb2 hB
        have hA2 := blk_grow hb2 hA
        have d0 := blk_cell hB2 0
        have d1 := blk_cell hB2 1
        have e0 := blk_free hB2 0
        have e1 := blk_free hB2 1
        simp only [List.getElem?_toArray, List.getElem?_cons_zero, List.getElem?_cons_succ] at d0 d1
        clear q1 q2 f0 f1 c0 c1 l1 l2 l3 hA hB g1 g2 k1 k2
        go_wp2
        go_roundw
        case rel =>
          refine ⟨k + 1, by omega, by go_num, ?_, ?_, ?_⟩
          · exact ((hb.trans (hb2.mono hb.size)).setCell (by simp) _).setCell (by simp) _
          · rw [blk_far (by simp), blk_far (by simp)]; exact hA2
          · exact blk_set (blk_set hB2 0 _) 1 _
        case measure => simp [intOf]; omega
      · have hkk : k = min n m := by omega
        have c0 := blk_cell hB 0
        have c1 := blk_cell hB 1
        have f0 := blk_free hA 0
        have f1 := blk_free hA 1
        have e0 := blk_cell hA 0
        have e1 := blk_cell hA 1
        simp only [List.getElem?_toArray, List.getElem?_cons_zero, List.getElem?_cons_succ] at c0 c1 e0 e1
        have HK := Lib.hid hkk
        by_cases hkn : k < n
        all_goals
          have hk2 : ¬ k < m ∨ ¬ k < n := by omega
          clear hkk
          go_wp2
          refine bodyPost_ret (results_cell_row Try.results17 _ _ w.heap.size 30 _ _ _ rfl (blk_set (blk_set hA 0 _) 1 _) Try.underlying30 rfl (by kernel_rfl)) rfl ⟨?_, (hb.setCell (by simp) _).setCell (by simp) _⟩
          rw [← HK.out]
          rfl
end Go.Proofs.Ytppmjbjgcakieaa
