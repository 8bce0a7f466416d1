/- The law RulesJudge returns true, and leaves all memory that stood before as it was: whatever bytes come in. No conditions. -/
import Derived.Test.YtppmjbjgcakieaaM2
namespace Go.Proofs.Ytppmjbjgcakieaa
open Go.RowKit
attribute [local go_sem] softAt softUpon cell_over frozen_over

def zero30 : Obj := .cells #[.int .i64 0, .int .i64 0] 30 (0, 0)
def cell30 (v : Int × Int) : Obj := .cells #[.int .i64 v.1, .int .i64 v.2] 30 (0, 0)

theorem fault_codes (e : Int) : 0 ≤ (faultV e).2 ∧ (faultV e).2 ≤ 255 := by
  unfold faultV
  repeat' split
  all_goals decide
theorem worse_codes {a b : Int × Int} (ha : 0 ≤ a.2 ∧ a.2 ≤ 255) (hb : 0 ≤ b.2 ∧ b.2 ≤ 255) : 0 ≤ (worseV a b).2 ∧ (worseV a b).2 ≤ 255 := by
  rcases worse_one a b with h | h <;> rw [h] <;> assumption
theorem worst_codes (xs ys : Nat → Nat) : ∀ n, 0 ≤ (worstV xs ys n).2 ∧ (worstV xs ys n).2 ≤ 255
  | 0 => ⟨Int.le_refl _, show (0 : Int) ≤ 255 by decide⟩
  | n + 1 => worse_codes (worst_codes xs ys n) (judV_codes _ _)

/-- back, of a verdict whose code is a byte -/
theorem back_v (v : Int × Int) (h : 0 ≤ v.2 ∧ v.2 ≤ 255) (w : World) :
    Calls Try.prog 10 #[.agg #[.int .i64 v.1, .int .u32 v.2]] w fun x w' => x = .returned (.agg #[.int .i64 v.1, .int .i64 v.2]) ∧ Below w.heap.size w w' := back_any v.1 v.2 h.1 h.2 w
theorem worse_v (u v : Int × Int) (w : World) :
    Calls Try.prog 11 #[.agg #[.int .i64 u.1, .int .u32 u.2], .agg #[.int .i64 v.1, .int .u32 v.2]] w fun x w' => x = .returned (.agg #[.int .i64 (worseV u v).1, .int .u32 (worseV u v).2]) ∧ Below w.heap.size w w' := worse_any u.1 u.2 v.1 v.2 w
theorem rworse_v (u v : Int × Int) (w : World) :
    Calls Try.prog 12 #[.agg #[.int .i64 u.1, .int .i64 u.2], .agg #[.int .i64 v.1, .int .i64 v.2]] w fun x w' => x = .returned (.agg #[.int .i64 (worseV u v).1, .int .i64 (worseV u v).2]) ∧ Below w.heap.size w w' := rworse_any u.1 u.2 v.1 v.2 w

set_option maxRecDepth 100000 in
set_option maxHeartbeats 4000000 in
theorem judgelaw_in (a1 a2 : Option Addr) (n m c1 c2 e : Nat) (xs ys : Nat → Nat) (w : World) (h1 : Bytes w a1 c1 xs) (h2 : Bytes w a2 c2 ys)
    (hn : n ≤ c1) (hm : m ≤ c2) (hc1 : c1 ≤ maxLen) (hc2 : c2 ≤ maxLen) (hn1 : n ≤ 100) (hm1 : m ≤ 100) (he : e ≤ 255) :
    Calls Try.prog 3 #[.slice a1 n c1, .slice a2 m c2, .int .u8 e] w fun x w' => x = .returned (.bool true) ∧ Below w.heap.size w w' := by
  unfold maxLen at hc1 hc2
  have H1 := Lib.hid h1
  have H2 := Lib.hid h2
  clear h1 h2
  have t1 : ¬ (100 : Int) < (n : Int) := by omega
  have t2 : ¬ (100 : Int) < (m : Int) := by omega
  go_enter Try.func3, Try.ntmps3
  go_wp2
  go_loopw [7] (fun i wr => ∃ k : Nat, k ≤ n ∧ i = .int .i64 k ∧ Below w.heap.size w wr) (fun i _ => n - (intOf i).toNat)
  case atStart => exact ⟨0, Nat.zero_le _, rfl, Below.refl _ _⟩
  case round =>
    obtain ⟨k, hk, rfl, hb⟩ := hrel
    by_cases hlt : k < n
    · obtain ⟨wo, rfl⟩ : ∃ wo : World, wo = wr := ⟨_, rfl⟩
      obtain ⟨o1, o2, ea, g1⟩ := H1.out k (by omega)
      subst ea
      have k0 : (0 : Int) ≤ (k : Int) := by omega
      have k1 : (k : Int) < (n : Int) := by omega
      go_wp2
      go_loopw [8] (fun i wr => ∃ j : Nat, j ≤ m ∧ j ≤ 8 ∧ i = .int .i64 j ∧ Below w.heap.size w wr) (fun i _ => 9 - (intOf i).toNat)
      case atStart => exact ⟨0, Nat.zero_le _, Nat.zero_le _, rfl, hb⟩
      case round =>
        obtain ⟨j, hj, hj8, rfl, hbi⟩ := hrel
        clear hb
        by_cases hjt : j < m ∧ j < 8
        · obtain ⟨hjm, hj9⟩ := hjt
          obtain ⟨o3, o4, eb, g2⟩ := H2.out j (by omega)
          subst eb
          have j0 : (0 : Int) ≤ (j : Int) := by omega
          have j1 : (j : Int) < (m : Int) := by omega
          have j2 : (j : Int) < 8 := by omega
          have q1 := cell_below hbi g1
          have q2 := cell_below hbi g2
          have l1 := World.block_lt_of_cell? wr _ q1
          have l2 := World.block_lt_of_cell? wr _ q2
          clear H1 H2 g1 g2
          go_wp2
          refine wp_soft2 22 ⟨18, 9, fun b => .pointer (some ⟨b, 0, none⟩), zero27, some 20, cell27 (judV (xs k) (ys j))⟩ ⟨19, 10, fun b => .pointer (some ⟨b, 0, none⟩), zero30, some 21, cell30 (judV (xs k) (ys j))⟩ (by kernel_rfl) (by kernel_rfl) (tail_end (by kernel_rfl)) ?_
          simp only [List.take_succ_cons, List.take_zero]
          repeat (first | (refine softLex_step (by rfl) (by rfl) (fun K hK => ?_); go_simp; first | (refine hK _ ?_; clear hK K) | (apply Exists.intro; refine ⟨fun x => ?_, hK _ ?_⟩; (first | (with_reducible exact judge_any _ _ _) | (with_reducible exact rjudge_any _ _ _)); clear hK K)))
          refine softLex_new _ rfl rfl rfl (fun y => by go_simp; rfl) ?_
          refine softLex_new _ rfl rfl rfl (fun y => by go_simp; rfl) ?_
          refine softLex_fill _ rfl rfl rfl rfl (fun y b hb => ?_) ?_
          · have e0 := blk_cell hb 0
            have e1 := blk_cell hb 1
            have e2 := blk_free hb 0
            have e3 := blk_free hb 1
            simp only [List.getElem?_toArray, List.getElem?_cons_zero, List.getElem?_cons_succ] at e0 e1
            refine ⟨_, ?_, ((Turned.refl hb).setCell 0 _).setCell 1 _⟩
            go_simp
          refine softLex_fill _ rfl rfl rfl rfl (fun y b hb => ?_) ?_
          · have e0 := blk_cell hb 0
            have e1 := blk_cell hb 1
            have e2 := blk_free hb 0
            have e3 := blk_free hb 1
            simp only [List.getElem?_toArray, List.getElem?_cons_zero, List.getElem?_cons_succ] at e0 e1
            refine ⟨_, ?_, ((Turned.refl hb).setCell 0 _).setCell 1 _⟩
            go_simp
          refine softLex_nil ?_
          intro w5 pb pc hb5 hpb hpc hbc h10 h11
          have B5 := bt hbi hb5
          have h10 : w5.heap[pb]? = some (cell27 (judV (xs k) (ys j))) := h10
          have h11 : w5.heap[pc]? = some (cell30 (judV (xs k) (ys j))) := h11
          have hcd := judV_codes (xs k) (ys j)
          generalize judV (xs k) (ys j) = V at *
          clear q1 q2 l1 l2 hbi hb5 hpb hpc hbc
          go_wp2_with ((with_reducible refine (fault_any _ _).mono ?_); rintro ex w6 ⟨rfl, hb6⟩)
          have hF := fault_codes (e : Int)
          have HF : Hid (∀ W, Calls Try.prog 13 #[.int .i64 e] W fun x w' => x = .returned (.agg #[.int .i64 (faultV e).1, .int .i64 (faultV e).2]) ∧ Below W.heap.size W w') := Lib.hid (rfault_any e)
          generalize faultV (e : Int) = F at *
          have z10 := blk_old (o := cell27 F) (blk_grow hb6 h10)
          have z11 := blk_old (o := cell27 F) (blk_grow hb6 h11)
          have z12 := heap_alloc_new w6 (cell27 F)
          have Bz := bta (bt B5 hb6) (cell27 F)
          unfold cell27 at z10 z11 z12 Bz
          unfold cell30 at z11
          clear h10 h11 B5 hb6
          generalize w6.alloc (.cells #[.int .i64 F.1, .int .u32 F.2] 27) = w7 at z10 z11 z12 Bz ⊢
          generalize w6.heap.size = p11 at z12 ⊢
          have y2 := blk_cell z10 0
          have y3 := blk_cell z10 1
          have y4 := blk_cell z11 0
          have y5 := blk_cell z11 1
          have y6 := blk_cell z12 0
          have y7 := blk_cell z12 1
          simp only [List.getElem?_toArray, List.getElem?_cons_zero, List.getElem?_cons_succ] at y2 y3 y4 y5 y6 y7
          have l0 := blk_lt z10
          have l1 := blk_lt z11
          have l2 := blk_lt z12
          clear z10 z11 z12
          have hwr : IntKind.i64.wrap (e : Int) = (e : Int) := IntWalk.i64_in _ (by omega)
          refine wp_soft0 16 (by kernel_rfl) (by kernel_rfl) (tail_end (by kernel_rfl)) ?_
          simp only [List.take_succ_cons, List.take_zero]
          repeat (refine softLex_step (by rfl) (by rfl) (fun K hK => ?_); go_simp; first | (refine hK _ ?_; clear hK K) | (apply Exists.intro; refine ⟨fun x => ?_, hK _ ?_⟩; (first | (with_reducible exact back_v V hcd _) | (with_reducible exact worse_v F V _) | (with_reducible exact back_v (worseV F V) (worse_codes hF hcd) _) | (with_reducible exact HF.out _) | (with_reducible exact rworse_v F V _)); clear hK K))
          refine softLex_nil ?_
          intro w8 hb8
          have B8 := bt Bz hb8
          clear y2 y3 y4 y5 y6 y7 l0 l1 l2 Bz hb8
          go_wp2
          go_roundw
          case rel => exact ⟨j + 1, by omega, by omega, by go_num, B8⟩
          case measure => simp [intOf]; omega
        · have q1 := cell_below hbi g1
          have l1 := World.block_lt_of_cell? wr _ q1
          clear H1 H2 g1
          have Ca := carried_any (xs k)
          have Cb := rcarried_any (xs k)
          generalize carriedV (xs k) = cb at Ca Cb
          have X5 := Lib.hid Ca
          have X6 := Lib.hid Cb
          clear Ca Cb
          by_cases hjm : j < m
          · have hj9 : j = 8 := by omega
            subst hj9
            clear hjt
            go_wp2
            refine wp_soft0 11 (by kernel_rfl) (by kernel_rfl) (tail_end (by kernel_rfl)) ?_
            simp only [List.take_succ_cons, List.take_zero]
            repeat (refine softLex_step (by rfl) (by rfl) (fun K hK => ?_); go_simp; first | (refine hK _ ?_; clear hK K) | (apply Exists.intro; refine ⟨fun x => ?_, hK _ ?_⟩; (first | (with_reducible exact X5.out _) | (with_reducible exact X6.out _)); clear hK K))
            refine softLex_nil ?_
            intro w8 hb8
            have B8 := bt hbi hb8
            clear q1 l1 hbi hb8
            go_wp2
            go_roundw
            case rel => exact ⟨k + 1, by omega, by go_num, B8⟩
            case measure => simp [intOf]; omega
          · clear hjt
            go_wp2
            refine wp_soft0 11 (by kernel_rfl) (by kernel_rfl) (tail_end (by kernel_rfl)) ?_
            simp only [List.take_succ_cons, List.take_zero]
            repeat (refine softLex_step (by rfl) (by rfl) (fun K hK => ?_); go_simp; first | (refine hK _ ?_; clear hK K) | (apply Exists.intro; refine ⟨fun x => ?_, hK _ ?_⟩; (first | (with_reducible exact X5.out _) | (with_reducible exact X6.out _)); clear hK K))
            refine softLex_nil ?_
            intro w8 hb8
            have B8 := bt hbi hb8
            clear q1 l1 hbi hb8
            go_wp2
            go_roundw
            case rel => exact ⟨k + 1, by omega, by go_num, B8⟩
            case measure => simp [intOf]; omega
    · obtain rfl : k = n := by omega
      have W1 : ∀ W, Below wr.heap.size wr W → Calls Try.prog 16 #[.slice a1 k c1, .slice a2 m c2] W fun x w' => x = .returned (.agg #[.int .i64 (worstV xs ys (min k m)).1, .int .u32 (worstV xs ys (min k m)).2]) ∧ Below W.heap.size W w' := fun W hW =>
        worst_any a1 a2 k m c1 c2 xs ys W (fun j hj => H1.out.below (bt hb hW) j (by omega)) (fun j hj => H2.out.below (bt hb hW) j (by omega)) (by unfold maxLen; omega) (by unfold maxLen; omega)
      have W2 : ∀ W, Below wr.heap.size wr W → Calls Try.prog 17 #[.slice a1 k c1, .slice a2 m c2] W fun x w' => x = .returned (.agg #[.int .i64 (worstV xs ys (min k m)).1, .int .i64 (worstV xs ys (min k m)).2]) ∧ Below W.heap.size W w' := fun W hW =>
        rworst_any a1 a2 k m c1 c2 xs ys W (fun j hj => H1.out.below (bt hb hW) j (by omega)) (fun j hj => H2.out.below (bt hb hW) j (by omega)) (by unfold maxLen; omega) (by unfold maxLen; omega)
      have hcV := worst_codes xs ys (min k m)
      generalize worstV xs ys (min k m) = V at *
      have Fa := fault_any (e : Int)
      have Fb := rfault_any (e : Int)
      have hF := fault_codes (e : Int)
      generalize faultV (e : Int) = F at *
      have X1 := Lib.hid W1
      have X2 := Lib.hid W2
      have X3 := Lib.hid Fa
      have X4 := Lib.hid Fb
      clear W1 W2 Fa Fb H1 H2
      have hwr : IntKind.i64.wrap (e : Int) = (e : Int) := IntWalk.i64_in _ (by omega)
      go_wp2_with (first | ((with_reducible refine (X1.out _ ?_).mono ?_); (exact Below.refl _ _); rintro ex w2 ⟨rfl, hb2⟩) | ((with_reducible refine (back_v V hcV _).mono ?_); rintro ex w3 ⟨rfl, hb3⟩) | ((with_reducible refine (X2.out _ ?_).mono ?_); (exact bt hb2 hb3); rintro ex w4 ⟨rfl, hb4⟩) | ((with_reducible refine (X3.out _).mono ?_); rintro ex w5 ⟨rfl, hb5⟩) | ((with_reducible refine (back_v F hF _).mono ?_); rintro ex w6 ⟨rfl, hb6⟩) | ((with_reducible refine (X4.out _).mono ?_); rintro ex w7 ⟨rfl, hb7⟩) | ((with_reducible refine (awake_any _).mono ?_); rintro ex w8 ⟨rfl, hb8⟩))
      go_ret
      exact ⟨rfl, bt (bt (bt (bt (bt (bt (bt hb hb2) hb3) hb4) hb5) hb6) hb7) hb8⟩

set_option maxRecDepth 100000 in
set_option maxHeartbeats 400000 in
theorem judgelaw_many (a1 a2 : Option Addr) (n m c1 c2 : Nat) (e : Int) (w : World) (h : 100 < n) :
    Calls Try.prog 3 #[.slice a1 n c1, .slice a2 m c2, .int .u8 e] w fun x w' => x = .returned (.bool true) ∧ Below w.heap.size w w' := by
  have t1 : (100 : Int) < (n : Int) := by omega
  go_enter Try.func3, Try.ntmps3
  go_wp2_with ((with_reducible refine (awake_any _).mono ?_); rintro ex w2 ⟨rfl, hb2⟩)
  go_ret
  exact ⟨rfl, hb2⟩

set_option maxRecDepth 100000 in
set_option maxHeartbeats 400000 in
theorem judgelaw_more (a1 a2 : Option Addr) (n m c1 c2 : Nat) (e : Int) (w : World) (h0 : n ≤ 100) (h : 100 < m) :
    Calls Try.prog 3 #[.slice a1 n c1, .slice a2 m c2, .int .u8 e] w fun x w' => x = .returned (.bool true) ∧ Below w.heap.size w w' := by
  have t1 : ¬ (100 : Int) < (n : Int) := by omega
  have t2 : (100 : Int) < (m : Int) := by omega
  go_enter Try.func3, Try.ntmps3
  go_wp2_with ((with_reducible refine (awake_any _).mono ?_); rintro ex w2 ⟨rfl, hb2⟩)
  go_ret
  exact ⟨rfl, hb2⟩

theorem judgelaw_rows (w : World) (a1 : Option Addr) (n c1 : Nat) (z1 : List Int) (h1 : IsRow .u8 w a1 n c1 z1) (a2 : Option Addr) (m c2 : Nat) (z2 : List Int) (h2 : IsRow .u8 w a2 m c2 z2) (e : Int) (hc : (Lit.int .u8 e).wf = true) :
    Calls Try.prog 3 #[.slice a1 n c1, .slice a2 m c2, .int .u8 e] w fun e w' => e = .returned (.bool true) ∧ Below w.heap.size w w' := by
  obtain ⟨k, rfl, hk⟩ := byte_num hc
  obtain ⟨xs, _, l1, m1, b1⟩ := row_bytes h1
  obtain ⟨ys, _, l2, m2, b2⟩ := row_bytes h2
  rcases Nat.lt_or_ge 100 n with h | h
  · exact judgelaw_many a1 a2 n m c1 c2 k w h
  · rcases Nat.lt_or_ge 100 m with h' | h'
    · exact judgelaw_more a1 a2 n m c1 c2 k w h h'
    · exact judgelaw_in a1 a2 n m c1 c2 k xs ys w b1 b2 l1 l2 m1 m2 h h' hk
end Go.Proofs.Ytppmjbjgcakieaa
