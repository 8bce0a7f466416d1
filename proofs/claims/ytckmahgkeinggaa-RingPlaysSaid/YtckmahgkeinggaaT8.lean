/- The contract of Push of the package ring, where the bytes that go in go round. -/
import Derived.Test.YtckmahgkeinggaaT3
namespace Go.Proofs.Ytckmahgkeinggaa
open Go.RowKit
attribute [local go_sem] cell_over frozen_over lt_over le_over ne_over over_ne cell_set_same softAt softUpon

theorem Touch.cells {w w' : World} {pr pc : Nat} (h : Touch w w' pr pc) {b o : Nat} {v : Value} (h1 : b ≠ pr) (h2 : b ≠ pc) (hc : w.cell? ⟨b, o, none⟩ = some v) : w'.cell? ⟨b, o, none⟩ = some v := by
  cases hb : w.heap[b]? with
  | none => simp [World.cell?, hb] at hc
  | some x =>
    have := h.other b x h1 h2 hb
    simp only [World.cell?, hb, this] at hc ⊢
    exact hc
theorem Bys.touch {w w' : World} {pr pc ab ao : Nat} {bs : List Value} (h : Touch w w' pr pc) (h1 : ab ≠ pr) (h2 : ab ≠ pc) (hb : Bys w (some ⟨ab, ao, none⟩) bs) : Bys w' (some ⟨ab, ao, none⟩) bs := by
  intro j v hj
  obtain ⟨b, o, e, hc⟩ := hb j v hj
  cases e
  exact ⟨ab, ao, rfl, h.cells h1 h2 hc⟩

set_option maxHeartbeats 2000000 in
/-- Push, where the bytes that go in go round. -/
theorem push_round {w : World} {pr pc m : Nat} {h k t : Int} {cur bs : List Value} (hm : InMem w pr pc m h k t cur) (ab ao c a n : Nat) (hb : Bys w (some ⟨ab, ao, none⟩) bs) (hab : ab ≠ pr) (hac : ab ≠ pc) (hl : bs.length ≤ 1000) (h1 : ∀ v ∈ bs, v.oneCell' = true) (hc : bs.length ≤ c)
    (ha : (a : Int) = (h + k) % m) (hn0 : 0 < n) (hn : (n : Int) = if (m : Int) - k < bs.length then (m : Int) - k else bs.length) (f : Nat) (hf0 : 0 < f) (hfm : a + f = m) (hfit : f < n) (ht : 0 ≤ t ∧ t ≤ 1000000) :
    Calls Try.prog 13 #[.pointer (some ⟨pr, 0, none⟩), .slice (some ⟨ab, ao, none⟩) bs.length c] w fun e w' => e = .returned (.int .i64 n) ∧ Touch w w' pr pc ∧ InMem w' pr pc m h (k + n) (t + n) (put (put cur a (bs.take f)) 0 ((bs.drop f).take (n - f))) := by
  have R := fun W hW => room_any (w := W) (pr := pr) (pc := pc) (m := m) (h := h) (k := k) (t := t) hW hm.m2 hm.k0 hm.k1
  have A := fun W hW => at_any (w := W) (pr := pr) (pc := pc) (m := m) (h := h) (k := k) (t := t) k hW hm.m2 hm.m1 hm.h0 (Int.le_of_lt hm.h1) hm.k0 (by have := hm.k1; have := hm.m2; omega)
  rw [← ha] at A
  have hr := hm.ring
  have hcells := hm.cells
  have n1 : 0 < (n : Int) := by omega
  have nb : n ≤ bs.length := by
    have : (n : Int) ≤ bs.length := by rw [hn]; split <;> omega
    omega
  have m1 := hm.m1
  have m2 := hm.m2
  have k0 := hm.k0
  have k1 : k + n ≤ m := by
    have := hm.k1
    have : (n : Int) ≤ m - k := by rw [hn]; split <;> omega
    omega
  have HN := Lib.hid hn
  have HR := Lib.hid R
  have HA := Lib.hid A
  clear R A hn ha
  go_enter Try.func13, Try.ntmps13
  go_upto_region 2 with (first
    | ((with_reducible refine (HR.out _ hr).mono ?_); rintro e w1 ⟨rfl, hb1⟩))
  rw [← HN.out]
  have hr1 := blk_grow hb1 hr
  have hc1 := blk_grow hb1 hcells
  have HR1 := Lib.hid hr1
  unfold ringO at hr1
  obtain ⟨a0, a1, a2, a3, a4, a5, a6, a7, a8⟩ := cells4 hr1
  have e1 : ¬ (n : Int) = 0 := by omega
  have e2 : ((n : Int) == 0) = false := by simp; omega
  have e3 : IntKind.i64.wrap ((a : Int) + n) = (a : Int) + n := IntWalk.i64_in _ (by omega)
  have e7 : (if (a : Int) + n < m then (a : Int) + n else (m : Int)) = m := by split <;> omega
  have e8 : (a : Int) ≤ m := by omega
  have e10 : (n : Int) ≤ c := by omega
  have e11 : ¬ m = a := by omega
  have e12 : m - a = f := by omega
  have e5 : IntKind.i64.wrap (a : Int) = a := IntWalk.i64_in _ (by omega)
  have e6 : IntKind.i64.wrap (n : Int) = n := IntWalk.i64_in _ (by omega)
  clear hr
  go_wp2
  refine wp_soft0 28 (by kernel_rfl) (by kernel_rfl) (tail_seq (by kernel_rfl)) ?_
  simp only [List.take_succ_cons, List.take_zero]
  repeat (first | (refine softLex_step (by rfl) (by rfl) (fun K hK => ?_); go_simp; first | (refine hK _ ?_; clear hK K) | (apply Exists.intro; refine ⟨fun x => ?_, hK _ ?_⟩; (first | (with_reducible exact HA.out _ (blk_grow (over_below _ _) HR1.out))); clear hK K)))
  refine softLex_nil ?_
  intro w2 hb2
  have hb2' := bt hb1 hb2
  have c2 := blk_grow hb2 hc1
  have r2 := blk_grow hb2 HR1.out
  have hsrc : ∀ j v, (bs.take f)[j]? = some v → w2.cell? ((⟨ab, ao, none⟩ : Addr).add j) = some v := by
    intro j v hj
    have hj2 : bs[j]? = some v := by
      rw [List.getElem?_take] at hj
      split at hj
      · exact hj
      · cases hj
    obtain ⟨b, o, e, hcell⟩ := hb.below hb2' j v hj2
    cases e
    unfold Addr.add
    split
    · rename_i h0; subst h0; exact hcell
    · exact hcell
  have hcp : ∀ ty, (Builtin.copy_ #[33, 33] ty #[.slice (some ⟨pc, a, none⟩) f f, .slice (some ⟨ab, ao, none⟩) n c]).run Try.prog w2 = .ok (.int .i64 (f : Int)) (w2.setRow pc (put cur a (bs.take f)).toArray) := by
    intro ty
    have hlen : (bs.take f).length = f := by simp; omega
    have := run_copy_row (P := Try.prog) w2 33 33 ty 5 pc a f f ⟨ab, ao, none⟩ n c cur.toArray 5 (bs.take f) Try.underlying33 (by kernel_rfl) c2 (by rw [hlen]; exact (Nat.min_eq_right (by omega)).symm) hsrc (by rw [hlen]; have := hm.len; simp; omega) (fun v hv => h1 v (List.mem_of_mem_take hv))
    rw [hlen] at this
    rw [this]
    have : goInt f = .int .i64 (f : Int) := by simp [goInt]
    rw [this]
    simp [put, hlen]
  have HC := Lib.hid hcp
  clear hcp hsrc
  simp only [List.drop_succ_cons, List.drop_zero]
  have hcp := HC.out
  go_wp2
  have T3 := ((Touch.refl w pr pc).grow hb2' (blk_lt hm.ring)).row (put cur a (bs.take f)).toArray
  have r3 := (setRow_other w2 pc pr (put cur a (bs.take f)).toArray hm.ne).trans r2
  have c3 := setRow_heap w2 pc _ (put cur a (bs.take f)).toArray _ _ c2
  have hlen2 : (put cur a (bs.take f)).length = m := by rw [put_len _ _ _ (by simp; have := hm.len; omega)]; exact hm.len
  generalize hq : put cur a (bs.take f) = cur2 at *
  have HQ := Lib.hid hq
  clear hq
  generalize w2.setRow pc cur2.toArray = w3 at *
  clear hcp HC c2 r2 hb2 hb2' hb1 hr1 hc1 HR1 HR HA a0 a1 a2 a3 a4 a5 a6 a7 a8
  unfold ringO at r3
  obtain ⟨a0, a1, a2, a3, a4, a5, a6, a7, a8⟩ := cells4 r3
  have hB3 := hb.touch T3 hab hac
  obtain ⟨g, hg⟩ : ∃ g, n - f = g := ⟨_, rfl⟩
  have e13 : (f : Int) ≤ n := by omega
  have e14 : (0 : Int) ≤ f := by omega
  have e15 : ¬ c = f := by omega
  have e16 : IntKind.i64.wrap (f : Int) = f := IntWalk.i64_in _ (by omega)
  refine wp_soft0 8 (by kernel_rfl) (by kernel_rfl) (tail_seq (by kernel_rfl)) ?_
  simp only [List.take_succ_cons, List.take_zero]
  repeat (first | (refine softLex_step (by rfl) (by rfl) (fun K hK => ?_); go_simp; (refine hK _ ?_; clear hK K)))
  refine softLex_nil ?_
  intro w4 hb4
  replace r3 := blk_grow hb4 r3
  replace c3 := blk_grow hb4 c3
  replace T3 := T3.grow hb4 a4
  replace hB3 := hB3.below hb4
  clear hb4 a0 a1 a2 a3 a4 a5 a6 a7 a8
  have hsrc : ∀ j v, ((bs.drop f).take g)[j]? = some v → w4.cell? ((⟨ab, ao + f, none⟩ : Addr).add j) = some v := by
    intro j v hj
    have hj2 : bs[f + j]? = some v := by
      rw [List.getElem?_take] at hj
      split at hj
      · rw [List.getElem?_drop] at hj; exact hj
      · cases hj
    obtain ⟨b, o, e, hcell⟩ := hB3 (f + j) v hj2
    cases e
    rw [← Nat.add_assoc] at hcell
    unfold Addr.add
    split
    · rename_i h0; subst h0; exact hcell
    · exact hcell
  have hcp2 : ∀ ty c', (Builtin.copy_ #[33, 33] ty #[.slice (some ⟨pc, 0, none⟩) m m, .slice (some ⟨ab, ao + f, none⟩) g c']).run Try.prog w4 = .ok (.int .i64 (g : Int)) (w4.setRow pc (put cur2 0 ((bs.drop f).take g)).toArray) := by
    intro ty c'
    have hlen : ((bs.drop f).take g).length = g := by simp; omega
    have := run_copy_row (P := Try.prog) w4 33 33 ty 5 pc 0 m m ⟨ab, ao + f, none⟩ g c' cur2.toArray 5 ((bs.drop f).take g) Try.underlying33 (by kernel_rfl) c3 (by rw [hlen]; exact (Nat.min_eq_left (by omega)).symm) hsrc (by rw [hlen]; simp; omega) (fun v hv => h1 v (List.mem_of_mem_drop (List.mem_of_mem_take hv)))
    rw [hlen] at this
    rw [this]
    have : goInt g = .int .i64 g := by simp [goInt]
    rw [this]
    simp [put, hlen]
  have T5 := T3.row (put cur2 0 ((bs.drop f).take g)).toArray
  have r5 := (setRow_other w4 pc pr (put cur2 0 ((bs.drop f).take g)).toArray hm.ne).trans r3
  have c5 := setRow_heap w4 pc _ (put cur2 0 ((bs.drop f).take g)).toArray _ _ c3
  have hlen3 : (put cur2 0 ((bs.drop f).take g)).length = m := by rw [put_len _ _ _ (by simp; omega)]; exact hlen2
  generalize hq3 : put cur2 0 ((bs.drop f).take g) = cur3 at *
  have HQ3 := Lib.hid hq3
  have HG := Lib.hid hg
  clear hq3 hsrc hB3 T3 r3 c3
  obtain ⟨w5, hw5⟩ : ∃ w5, w5 = w4.setRow pc cur3.toArray := ⟨_, rfl⟩
  rw [← hw5] at T5 r5 c5 hcp2
  clear hw5
  obtain ⟨a0, a1, a2, a3, a4, a5, a6, a7, a8⟩ := cells4 r5
  have f2 := blk_free r5 2
  have f3 := blk_free r5 3
  have z1 : IntKind.i64.wrap (k + n) = k + n := IntWalk.i64_in _ (by omega)
  have z2 : IntKind.i64.wrap (t + n) = t + n := IntWalk.i64_in _ (by omega)
  simp only [List.drop_succ_cons, List.drop_zero]
  go_wp2
  all_goals go_returns
  all_goals rw [HG.out, HQ.out, HQ3.out]
  all_goals refine ⟨rfl, (T5.cell 2 _).cell 3 _, ?_⟩
  all_goals exact { ring := (blk_set (blk_set r5 2 _) 3 _).trans rfl, cells := ((blk_far (Ne.symm hm.ne)).trans (blk_far (Ne.symm hm.ne))).trans c5, len := hlen3, ne := hm.ne, m1 := hm.m1, m2 := hm.m2, h0 := hm.h0, h1 := hm.h1, k0 := by omega, k1 := k1 }
end Go.Proofs.Ytckmahgkeinggaa
