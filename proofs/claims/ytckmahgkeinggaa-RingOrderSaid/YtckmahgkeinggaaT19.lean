/- The law RingParts: what stands there is told in parts as it is told at once, and goes out as it is told. -/
import Derived.Test.YtckmahgkeinggaaT18
import Derived.Test.YtckmahgkeinggaaS3
import Derived.Outline
namespace Go.Proofs.Ytckmahgkeinggaa
open Go.RowKit
attribute [local go_sem] cell_over frozen_over lt_over le_over ne_over over_ne cell_set_same softAt softUpon lightUpon heavyUpon cell_kept frozen_kept

theorem new_v (w : World) (n : Int) (m : Nat) (h : n = m) (m1 : 1 ≤ m) (m2 : m ≤ 4096) : Calls Try.prog 8 #[.int .i64 n] w fun e w' => ∃ pr pc, e = .returned (.tuple #[.pointer (some ⟨pr, 0, none⟩), .int .i64 0]) ∧ Below w.heap.size w w' ∧ w.heap.size ≤ pr ∧ w.heap.size ≤ pc ∧ RingIs w' pr pc m 0 (bv []) := by
  subst h
  exact new_u w m m1 m2

theorem Told.kept {w : World} {B pr pc : Nat} {v : Value} {l : List UInt8} (h : Told w B pr pc v l) {S : List Nat} (hs : ∀ b ∈ S, b = pr ∨ b = pc) (x : World) : Told (kept S w x) B pr pc v l := by
  rcases h.is with h | ⟨pb, h1, h2, h3, h4, h5⟩
  · exact ⟨.inl h⟩
  · exact ⟨.inr ⟨pb, h1, h2, h3, h4, blk_kept h5 (fun hc => (hs pb hc).elim h3 h4)⟩⟩
theorem look_head (l : List UInt8) (k : Nat) : look l 0 k = l.take k := by
  unfold look
  split
  · obtain rfl : k = 0 := by omega
    rfl
  · rfl
theorem look_tail (l : List UInt8) (k : Nat) : look l k l.length = l.drop k := by
  unfold look
  split
  · have : l.length = 0 := by omega
    rw [List.drop_eq_nil_of_le (by omega)]
  · rw [List.take_of_length_le (by simp)]
    simp
theorem ext_head (l : List UInt8) (k : Nat) : (⟨l.toArray⟩ : ByteArray).extract 0 k = ⟨(l.take k).toArray⟩ := by
  apply ByteArray.ext
  simp
theorem ext_tail (l : List UInt8) (k : Nat) : (⟨l.toArray⟩ : ByteArray).extract k l.length = ⟨(l.drop k).toArray⟩ := by
  apply ByteArray.ext
  simp
  exact List.take_of_length_le (by simp)
theorem str_app (a b : List UInt8) : (⟨a.toArray⟩ : ByteArray) ++ ⟨b.toArray⟩ = ⟨(a ++ b).toArray⟩ := by
  apply ByteArray.ext
  simp
theorem touch_kept {w w' : World} {pr pc : Nat} (h : Touch w w' pr pc) : Kept [pr, pc] w w' :=
  ⟨(h.below 0 w (Nat.zero_le _) (Nat.zero_le _) (Below.refl _ _)).size, fun b hb hs => by
    have hb' := Array.getElem?_eq_getElem hb
    simp only [List.mem_cons, List.not_mem_nil, or_false, not_or] at hs
    rw [h.other b _ hs.1 hs.2 hb', hb']⟩

set_option maxRecDepth 100000 in
set_option maxHeartbeats 4000000 in
theorem parts_any (w : World) (rb cb : Nat) (hrb : rb ≤ 255) (hcb : cb ≤ 255) (a1 : Option Addr) (n1 c1 : Nat) (l1 : List UInt8) (h1 : Came w w.heap.size a1 n1 c1 l1) (a2 : Option Addr) (n2 c2 : Nat) (l2 : List UInt8) (h2 : Came w w.heap.size a2 n2 c2 l2) (s1 : n1 ≤ 100) (s2 : n2 ≤ 100) :
    Calls Try.prog 6 #[.agg #[.int .u8 rb, .int .u8 cb], .slice a1 n1 c1, .slice a2 n2 c2] w fun e w' => e = .returned (.bool true) ∧ Below w.heap.size w w' := by
  have H1 := Lib.hid h1
  have H2 := Lib.hid h2
  clear h1 h2
  have e1 : IntKind.i64.wrap (1 + (rb : Int)) = 1 + rb := IntWalk.i64_in _ (by omega)
  have e2 : ¬ (n1 : Int) > 100 := by omega
  have e3 : ¬ (n2 : Int) > 100 := by omega
  go_enter Try.func6, Try.ntmps6
  go_wp2
  refine wp_soft0 6 (by kernel_rfl) (by kernel_rfl) (tail_end (by kernel_rfl)) ?_
  simp only [List.take_succ_cons, List.take_zero]
  repeat (refine softLex_step (by rfl) (by rfl) (fun K hK => ?_); go_simp; (refine hK _ ?_; clear hK K))
  refine softLex_nil ?_
  intro w1 hb1
  have B1 : Below w.heap.size w w1 := bt (bta (Below.refl _ _) _) hb1
  clear hb1
  go_wp2_with (first
    | ((with_reducible refine (new_v _ (1 + (rb : Int)) (1 + rb) (by simp) (by omega) (by omega)).mono ?_); refine unhalt ?_))
  unfold Halted
  rintro e w2 ⟨pr, pc, rfl, hb, lr, lc, R2⟩
  have B2 := bt B1 hb
  replace lr : w.heap.size ≤ pr := Nat.le_trans B1.size lr
  replace lc : w.heap.size ≤ pc := Nat.le_trans B1.size lc
  have R := Lib.hid R2
  clear hb R2 B1 
  dsimp only
  generalize hm : 1 + rb = m at *
  have m1 : 1 ≤ m := by omega
  have m2 : m ≤ 256 := by omega
  have HM := Lib.hid hm
  clear hm e1
  go_wp2_with (first
    | ((with_reducible refine (push_u R.out (H1.out.under B2) lr lc (by omega) (by omega)).mono ?_); refine unhalt ?_))
  unfold Halted
  rintro e w3 ⟨rfl, hT, R3⟩
  have x1 : min n1 (m - ([] : List UInt8).length) ≤ 100 := by omega
  have hT3 := hT.below w.heap.size w lr lc B2
  generalize min n1 (m - ([] : List UInt8).length) = x at *
  generalize ([] : List UInt8) ++ l1.take x = q1 at *
  replace R := Lib.hid R3
  clear hT R3 B2 H1
  dsimp only
  go_wp2_with (first
    | ((with_reducible refine (drop_u R.out _).mono ?_); refine unhalt ?_))
  unfold Halted
  rintro e w4 ⟨rfl, hT, R4⟩
  have hT4 := hT.below w.heap.size w lr lc hT3
  generalize (look q1 0 _).length = y at *
  generalize q1.drop y = q2 at *
  replace R := Lib.hid R4
  clear hT R4 hT3
  dsimp only
  go_wp2_with (first
    | ((with_reducible refine (push_u R.out (H2.out.under hT4) lr lc (by omega) (by omega)).mono ?_); refine unhalt ?_))
  unfold Halted
  rintro e w5 ⟨rfl, hT, R5⟩
  have hT5 := hT.below w.heap.size w lr lc hT4
  generalize min n2 (m - q2.length) = x2 at *
  generalize 0 + (x : Int) + x2 = t at *
  generalize q2 ++ l2.take x2 = q at *
  have ql : q.length ≤ m := by have := R5.len; rw [bv_len] at this; exact this
  have r5 := R5.lt
  replace R := Lib.hid R5
  clear hT R5 hT4 H2
  dsimp only
  go_wp2_with (first
    | ((with_reducible refine (peek_u R.out _ _).mono ?_); refine unhalt ?_))
  unfold Halted
  rintro e w6 ⟨hb, v, rfl, hv⟩
  have hT6 := bt hT5 hb
  have hcv := hv.conv
  have R6 := R.out.below hb
  replace R := Lib.hid R6
  have hq : look q 0 4096 = q := by
    unfold look
    rw [if_neg (by omega)]
    show (q.drop 0).take 4096 = q
    rw [List.drop_zero, List.take_of_length_le (by omega)]
  rw [hq] at hcv
  clear R6 hb hT5 hv hq
  dsimp only
  have f1 : IntKind.i64.wrap ((q.length : Int) + 1) = q.length + 1 := IntWalk.i64_in _ (by omega)
  have f2 : ¬ ((q.length : Int) + 1) = 0 := by omega
  have f3 : (((q.length : Int) + 1) == 0) = false := by simp; omega
  have f4 : (cb : Int).tmod ((q.length : Int) + 1) = ((cb % (q.length + 1) : Nat) : Int) := by
    rw [Int.tmod_eq_emod_of_nonneg (by omega)]; simp
  have f5 : cb % (q.length + 1) ≤ q.length := by have := Nat.mod_lt cb (show q.length + 1 > 0 by omega); omega
  have f6 : IntKind.i64.wrap ((cb % (q.length + 1) : Nat) : Int) = ((cb % (q.length + 1) : Nat) : Int) := IntWalk.i64_in _ (by omega)
  go_wp2
  clear f1 f2 f3 f4 f6 hcv
  obtain ⟨k, hk, hkq⟩ : ∃ k : Nat, (cb : Int) % ((q.length : Int) + 1) = k ∧ k ≤ q.length := ⟨cb % (q.length + 1), by simp, f5⟩
  rw [hk]
  have HK := Lib.hid hk
  clear hk f5
  refine wp_chain [] [2, 8] [3, 9] (by kernel_rfl) (by kernel_rfl) ?_
  intro w7 hb7 hh7
  have hT7 := bt hT6 hb7
  have R7 := R.out.below hb7
  replace R := Lib.hid R7
  clear R7 hT6 hb7 hh7
  refine chain_now (by rfl) (by rfl) (fun K hK => ?_)
  replace hK := Lib.hid hK
  go_simp
  refine hK.out _ _ ?_; clear hK K
  refine chain_now (by rfl) (by rfl) (fun K hK => ?_)
  replace hK := Lib.hid hK
  go_simp
  refine hK.out _ _ ?_; clear hK K
  refine chain_do (by rfl) (fun K hK => ?_)
  replace hK := Lib.hid hK
  go_simp
  refine (peek_u R.out _ _).mono ?_
  rintro e w8 ⟨hb, v1, rfl, hv⟩
  refine ⟨_, rfl, Below.kept _ hb, hK.out _ _ ?_⟩; clear hK K
  have hT8 := bt hT7 hb
  have R8 := R.out.below hb
  have hcv := fun x => (hv.kept (S := []) (by simp) x).conv
  rw [look_head] at hcv
  replace R := Lib.hid R8
  clear R8 hb hT7 hv
  refine chain_late (by rfl) (by rfl) (fun K hK => ?_)
  replace hK := Lib.hid hK
  go_simp
  refine hK.out _ _ ?_; clear hK K
  clear hcv
  refine chain_now (by rfl) (by rfl) (fun K hK => ?_)
  replace hK := Lib.hid hK
  go_simp
  refine hK.out _ _ ?_; clear hK K
  refine chain_now (by rfl) (by rfl) (fun K hK => ?_)
  replace hK := Lib.hid hK
  go_simp
  refine hK.out _ _ ?_; clear hK K
  refine chain_now (by rfl) (by rfl) (fun K hK => ?_)
  replace hK := Lib.hid hK
  go_simp
  refine hK.out _ _ ?_; clear hK K
  refine chain_now (by rfl) (by rfl) (fun K hK => ?_)
  replace hK := Lib.hid hK
  go_simp
  refine hK.out _ _ ?_; clear hK K
  refine chain_do (by rfl) (fun K hK => ?_)
  replace hK := Lib.hid hK
  go_simp
  refine (peek_u R.out _ _).mono ?_
  rintro e w9 ⟨hb, v2, rfl, hv⟩
  refine ⟨_, rfl, Below.kept _ hb, hK.out _ _ ?_⟩; clear hK K
  have hT9 := bt hT8 hb
  have R9 := R.out.below hb
  have hcv := fun x => (hv.kept (S := []) (by simp) x).conv
  rw [look_tail] at hcv
  replace R := Lib.hid R9
  clear R9 hb hT8 hv
  refine chain_late (by rfl) (by rfl) (fun K hK => ?_)
  replace hK := Lib.hid hK
  go_simp
  refine hK.out _ _ ?_; clear hK K
  clear hcv
  have hbig : ¬ 9223372036854775807 < q.length := by omega
  refine chain_now (by rfl) (by rfl) (fun K hK => ?_)
  replace hK := Lib.hid hK
  go_simp
  refine hK.out _ _ ?_; clear hK K
  refine chain_now (by rfl) (by rfl) (fun K hK => ?_)
  replace hK := Lib.hid hK
  go_simp
  refine hK.out _ _ ?_; clear hK K
  refine chain_end ?_
  rw [str_app, List.take_append_drop]
  go_wp2_with (first
    | ((with_reducible refine (pop_u R.out _).mono ?_); refine unhalt ?_))
  unfold Halted
  rintro e w10 ⟨hT, R10, v3, rfl, hv⟩
  have hT10 := hT.below w.heap.size w lr lc hT9
  have hcv := hv.conv
  rw [look_head] at hcv R10
  rw [List.length_take, Nat.min_eq_left hkq] at R10
  replace R := Lib.hid R10
  clear R10 hT hT9 hv
  dsimp only
  go_wp2
  clear hcv
  have hx1 := ext_head q k
  have hx2 := ext_tail q k
  have g1 : IntKind.i64.wrap ((q.length : Int) - k) = ((q.length - k : Nat) : Int) := by
    rw [IntWalk.i64_in _ (by omega)]; omega
  have g2 : (k : Int) ≤ q.length := by omega
  refine wp_chain [pr, pc] [12, 21, 30, 34] [22] (by kernel_rfl) (by kernel_rfl) ?_
  intro w11 hb11 hh11
  have hT11 := bt hT10 hb11
  have R11 := R.out.below hb11
  replace R := Lib.hid R11
  clear R11 hT10 hb11 hh11
  iterate 12
    refine chain_now (by rfl) (by rfl) (fun K hK => ?_)
    replace hK := Lib.hid hK
    go_simp
    refine hK.out _ _ ?_; clear hK K
  refine chain_do (by rfl) (fun K hK => ?_)
  replace hK := Lib.hid hK
  go_simp
  refine (len_u R.out).mono ?_
  rintro e w12 ⟨rfl, hb⟩
  refine ⟨_, rfl, Below.kept _ hb, hK.out _ _ ?_⟩; clear hK K
  have hT12 := bt hT11 hb
  have R12 := R.out.below hb
  replace R := Lib.hid R12
  rw [List.length_drop]
  clear R12 hT11 hb
  iterate 8
    refine chain_now (by rfl) (by rfl) (fun K hK => ?_)
    replace hK := Lib.hid hK
    go_simp
    refine hK.out _ _ ?_; clear hK K
  refine chain_do (by rfl) (fun K hK => ?_)
  replace hK := Lib.hid hK
  go_simp
  refine (pop_u R.out _).mono ?_
  rintro e w13 ⟨hT, R13, v4, rfl, hv⟩
  refine ⟨_, rfl, touch_kept hT, hK.out _ _ ?_⟩; clear hK K
  have hT13 := hT.below w.heap.size w lr lc hT12
  have hcv := fun x => (hv.kept (S := [pr, pc]) (by simp) x).conv
  have hl : look (q.drop k) 0 q.length = q.drop k := by rw [look_head, List.take_of_length_le (by simp)]
  rw [hl] at hcv R13
  rw [List.drop_length] at R13
  replace R := Lib.hid R13
  clear R13 hT12 hT hv hl
  refine chain_late (by rfl) (by rfl) (fun K hK => ?_)
  replace hK := Lib.hid hK
  go_simp
  refine hK.out _ _ ?_; clear hK K
  clear hcv
  iterate 7
    refine chain_now (by rfl) (by rfl) (fun K hK => ?_)
    replace hK := Lib.hid hK
    go_simp
    refine hK.out _ _ ?_; clear hK K
  refine chain_do (by rfl) (fun K hK => ?_)
  replace hK := Lib.hid hK
  go_simp
  refine (len_u R.out).mono ?_
  rintro e w14 ⟨rfl, hb⟩
  refine ⟨_, rfl, Below.kept _ hb, hK.out _ _ ?_⟩; clear hK K
  have hT14 := bt hT13 hb
  clear hT13 hb
  iterate 3
    refine chain_now (by rfl) (by rfl) (fun K hK => ?_)
    replace hK := Lib.hid hK
    go_simp
    refine hK.out _ _ ?_; clear hK K
  refine chain_do (by rfl) (fun K hK => ?_)
  replace hK := Lib.hid hK
  go_simp
  refine (awake_any _).mono ?_
  rintro e w15 ⟨rfl, hb⟩
  refine ⟨_, rfl, Below.kept _ hb, hK.out _ _ ?_⟩; clear hK K
  have hT15 := bt hT14 hb
  clear hT14 hb
  iterate 2
    refine chain_now (by rfl) (by rfl) (fun K hK => ?_)
    replace hK := Lib.hid hK
    go_simp
    refine hK.out _ _ ?_; clear hK K
  refine chain_end ?_
  go_wp2
  go_returns
  exact ⟨rfl, hT15⟩
end Go.Proofs.Ytckmahgkeinggaa
