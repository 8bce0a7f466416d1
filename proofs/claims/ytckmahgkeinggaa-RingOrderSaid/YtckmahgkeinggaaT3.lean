/- The contract of Push of the package ring: what is put in, and where it then stands; nothing else that stood before is turned. -/
import Derived.Test.YtckmahgkeinggaaT2
import Derived.Laws.CopyRow
import Derived.Deep.CutRange
import Derived.Laws.CopyOwn
import Derived.Laws.IdiomCopy
namespace Go.Proofs.Ytckmahgkeinggaa
open Go.RowKit
attribute [local go_sem] cell_over frozen_over lt_over le_over ne_over over_ne cell_set_same softAt softUpon

/-- The list with another one written over it from a place on. -/
def put (cur : List Value) (o : Nat) (xs : List Value) : List Value := cur.take o ++ xs ++ cur.drop (o + xs.length)
theorem put_len (cur : List Value) (o : Nat) (xs : List Value) (h : o + xs.length ≤ cur.length) : (put cur o xs).length = cur.length := by
  simp [put]; omega

/-- What holds of worlds in which two blocks alone were turned. -/
structure Touch (w w' : World) (pr pc : Nat) : Prop where
  below : ∀ (B : Nat) (w0 : World), B ≤ pr → B ≤ pc → Below B w0 w → Below B w0 w'
  other : ∀ (b : Nat) (o : Obj), b ≠ pr → b ≠ pc → w.heap[b]? = some o → w'.heap[b]? = some o

theorem Touch.refl (w : World) (pr pc : Nat) : Touch w w pr pc := ⟨fun _ _ _ _ h => h, fun _ _ _ _ h => h⟩
theorem Touch.grow {w w1 w2 : World} {pr pc : Nat} (h : Touch w w1 pr pc) (hb : Below w1.heap.size w1 w2) (hlt : pr < w1.heap.size) : Touch w w2 pr pc :=
  ⟨fun B w0 h1 h2 h3 => (h.below B w0 h1 h2 h3).trans (hb.mono (by omega)), fun b o h1 h2 h3 => blk_grow hb (h.other b o h1 h2 h3)⟩
theorem Touch.row {w w1 : World} {pr pc : Nat} (h : Touch w w1 pr pc) (cs : Array Value) : Touch w (w1.setRow pc cs) pr pc :=
  ⟨fun B w0 h1 h2 h3 => below_setRow (h.below B w0 h1 h2 h3) h2 cs, fun b o h1 h2 h3 => (setRow_other w1 pc b cs h2).trans (h.other b o h1 h2 h3)⟩
theorem Touch.cell {w w1 : World} {pr pc : Nat} (h : Touch w w1 pr pc) (o : Nat) (v : Value) : Touch w (w1.setCell ⟨pr, o, none⟩ v) pr pc :=
  ⟨fun B w0 h1 h2 h3 => (h.below B w0 h1 h2 h3).setCell h1 v, fun b o' h1 h2 h3 => (blk_far h1).trans (h.other b o' h1 h2 h3)⟩

/-- A ring in memory: its struct, and its cells. -/
structure InMem (w : World) (pr pc m : Nat) (h k t : Int) (cur : List Value) : Prop where
  ring : w.heap[pr]? = some (ringO pc m h k t)
  cells : w.heap[pc]? = some (.cells cur.toArray 5 (0, 0))
  len : cur.length = m
  ne : pr ≠ pc
  m1 : 1 ≤ m
  m2 : m ≤ 4096
  h0 : 0 ≤ h
  h1 : h < m
  k0 : 0 ≤ k
  k1 : k ≤ m

theorem InMem.below {w w' : World} {pr pc m : Nat} {h k t : Int} {cur : List Value} (hm : InMem w pr pc m h k t cur) (hb : Below w.heap.size w w') : InMem w' pr pc m h k t cur :=
  { hm with ring := blk_grow hb hm.ring, cells := blk_grow hb hm.cells }

/-- Bytes in a slice. -/
def Bys (w : World) (a : Option Addr) (bs : List Value) : Prop := ∀ j v, bs[j]? = some v → ∃ b o, a = some ⟨b, o, none⟩ ∧ w.cell? ⟨b, o + j, none⟩ = some v
theorem Bys.below {w w' : World} {a : Option Addr} {bs : List Value} (h : Bys w a bs) (hb : Below w.heap.size w w') : Bys w' a bs :=
  fun j v hj => let ⟨b, o, e, hc⟩ := h j v hj; ⟨b, o, e, cell_below hb hc⟩

/-- Where the next byte goes, and how many bytes fit. -/
theorem at_nat {w : World} {pr pc m : Nat} {h k t : Int} {cur : List Value} (hm : InMem w pr pc m h k t cur) : ∃ a : Nat, (a : Int) = (h + k) % m ∧ a < m := by
  have e3 : 0 ≤ (h + k) % (m : Int) := Int.emod_nonneg _ (by have := hm.m1; omega)
  have e4 : (h + k) % (m : Int) < m := Int.emod_lt_of_pos _ (by have := hm.m1; omega)
  exact ⟨((h + k) % (m : Int)).toNat, by omega, by omega⟩

set_option maxHeartbeats 2000000 in
/-- Push, where the bytes that go in need not go round. -/
theorem push_flat {w : World} {pr pc m : Nat} {h k t : Int} {cur bs : List Value} (hm : InMem w pr pc m h k t cur) (ab ao c a n : Nat) (hb : Bys w (some ⟨ab, ao, none⟩) bs) (hab : ab ≠ pr) (hac : ab ≠ pc) (hl : bs.length ≤ 1000) (h1 : ∀ v ∈ bs, v.oneCell' = true) (hc : bs.length ≤ c)
    (ha : (a : Int) = (h + k) % m) (hn0 : 0 < n) (hn : (n : Int) = if (m : Int) - k < bs.length then (m : Int) - k else bs.length) (hfit : a + n ≤ m) (ht : 0 ≤ t ∧ t ≤ 1000000) :
    Calls Try.prog 13 #[.pointer (some ⟨pr, 0, none⟩), .slice (some ⟨ab, ao, none⟩) bs.length c] w fun e w' => e = .returned (.int .i64 n) ∧ Touch w w' pr pc ∧ InMem w' pr pc m h (k + n) (t + n) (put cur a (bs.take n)) := by
  have R := fun W hW => room_any (w := W) (pr := pr) (pc := pc) (m := m) (h := h) (k := k) (t := t) hW hm.m2 hm.k0 hm.k1
  have A := fun W hW => at_any (w := W) (pr := pr) (pc := pc) (m := m) (h := h) (k := k) (t := t) k hW hm.m2 hm.m1 hm.h0 (Int.le_of_lt hm.h1) hm.k0 (by have := hm.k1; have := hm.m2; omega)
  rw [← ha] at A
  have hr := hm.ring
  have hcells := hm.cells
  have n1 : 0 < (n : Int) := by omega
  have nb : n ≤ bs.length := by
    have : (n : Int) ≤ bs.length := by rw [hn]; split <;> omega
    omega
  have m1 := hm.m1
  have m2 := hm.m2
  have k0 := hm.k0
  have k1 : k + n ≤ m := by
    have := hm.k1
    have : (n : Int) ≤ m - k := by rw [hn]; split <;> omega
    omega
  have HN := Lib.hid hn
  have HR := Lib.hid R
  have HA := Lib.hid A
  clear R A hn ha
  go_enter Try.func13, Try.ntmps13
  go_upto_region 2 with (first
    | ((with_reducible refine (HR.out _ hr).mono ?_); rintro e w1 ⟨rfl, hb1⟩))
  rw [← HN.out]
  have hr1 := blk_grow hb1 hr
  have hc1 := blk_grow hb1 hcells
  have HR1 := Lib.hid hr1
  unfold ringO at hr1
  obtain ⟨a0, a1, a2, a3, a4, a5, a6, a7, a8⟩ := cells4 hr1
  have e1 : ¬ (n : Int) = 0 := by omega
  have e2 : ((n : Int) == 0) = false := by simp; omega
  have e3 : IntKind.i64.wrap ((a : Int) + n) = (a : Int) + n := IntWalk.i64_in _ (by omega)
  have e4 : ¬ (m : Int) < (a : Int) + n := by omega
  have e7 : (if (a : Int) + n < m then (a : Int) + n else (m : Int)) = (a : Int) + n := by split <;> omega
  have e8 : (a : Int) ≤ (a : Int) + n := by omega
  have e9 : (a : Int) + n ≤ m := by omega
  have e10 : (n : Int) ≤ c := by omega
  have e11 : ¬ m = a := by omega
  have e12 : ((a : Int) + n).toNat - a = n := by omega
  have e5 : IntKind.i64.wrap (a : Int) = a := IntWalk.i64_in _ (by omega)
  have e6 : IntKind.i64.wrap (n : Int) = n := IntWalk.i64_in _ (by omega)
  clear hr
  go_wp2
  refine wp_soft0 28 (by kernel_rfl) (by kernel_rfl) (tail_seq (by kernel_rfl)) ?_
  simp only [List.take_succ_cons, List.take_zero]
  repeat (first | (refine softLex_step (by rfl) (by rfl) (fun K hK => ?_); go_simp; first | (refine hK _ ?_; clear hK K) | (apply Exists.intro; refine ⟨fun x => ?_, hK _ ?_⟩; (first | (with_reducible exact HA.out _ (blk_grow (over_below _ _) HR1.out))); clear hK K)))
  refine softLex_nil ?_
  intro w2 hb2
  have hb2' := bt hb1 hb2
  have c2 := blk_grow hb2 hc1
  have r2 := blk_grow hb2 HR1.out
  have hsrc : ∀ j v, (bs.take n)[j]? = some v → w2.cell? ((⟨ab, ao, none⟩ : Addr).add j) = some v := by
    intro j v hj
    have hj2 : bs[j]? = some v := by
      rw [List.getElem?_take] at hj
      split at hj
      · exact hj
      · cases hj
    obtain ⟨b, o, e, hcell⟩ := hb.below hb2' j v hj2
    cases e
    unfold Addr.add
    split
    · rename_i h0; subst h0; exact hcell
    · exact hcell
  have hcp : ∀ ty, (Builtin.copy_ #[33, 33] ty #[.slice (some ⟨pc, a, none⟩) n (m - a), .slice (some ⟨ab, ao, none⟩) n c]).run Try.prog w2 = .ok (.int .i64 n) (w2.setRow pc (put cur a (bs.take n)).toArray) := by
    intro ty
    have hlen : (bs.take n).length = n := by simp; omega
    have := run_copy_row (P := Try.prog) w2 33 33 ty 5 pc a n (m - a) ⟨ab, ao, none⟩ n c cur.toArray 5 (bs.take n) Try.underlying33 (by kernel_rfl) c2 (by rw [hlen]; simp) hsrc (by rw [hlen]; have := hm.len; simp; omega) (fun v hv => h1 v (List.mem_of_mem_take hv))
    rw [hlen] at this
    rw [this]
    have : goInt n = .int .i64 n := by simp [goInt]
    rw [this]
    simp [put, hlen]
  have HC := Lib.hid hcp
  clear hcp hsrc
  simp only [List.drop_succ_cons, List.drop_zero]
  have hcp := HC.out
  go_wp2
  have T3 := ((Touch.refl w pr pc).grow hb2' (blk_lt hm.ring)).row (put cur a (bs.take n)).toArray
  have r3 := (setRow_other w2 pc pr (put cur a (bs.take n)).toArray hm.ne).trans r2
  have c3 := setRow_heap w2 pc _ (put cur a (bs.take n)).toArray _ _ c2
  have hlen2 : (put cur a (bs.take n)).length = m := by rw [put_len _ _ _ (by simp; have := hm.len; omega)]; exact hm.len
  generalize hq : put cur a (bs.take n) = cur2 at *
  have HQ := Lib.hid hq
  clear hq
  generalize w2.setRow pc cur2.toArray = w3 at *
  clear hcp HC c2 r2 hb2 hb2' hb1 hr1 hc1 HR1 HR HA a0 a1 a2 a3 a4 a5 a6 a7 a8
  unfold ringO at r3
  obtain ⟨a0, a1, a2, a3, a4, a5, a6, a7, a8⟩ := cells4 r3
  have e13 : (n : Int) ≤ n := Int.le_refl _
  have e14 : (0 : Int) ≤ n := by omega
  refine wp_soft0 8 (by kernel_rfl) (by kernel_rfl) (tail_seq (by kernel_rfl)) ?_
  simp only [List.take_succ_cons, List.take_zero]
  repeat (first | (refine softLex_step (by rfl) (by rfl) (fun K hK => ?_); go_simp; (refine hK _ ?_; clear hK K)))
  refine softLex_nil ?_
  intro w4 hb4
  replace r3 := blk_grow hb4 r3
  replace c3 := blk_grow hb4 c3
  replace T3 := T3.grow hb4 a4
  clear hb4 a0 a1 a2 a3 a4 a5 a6 a7 a8
  obtain ⟨a0, a1, a2, a3, a4, a5, a6, a7, a8⟩ := cells4 r3
  have f2 := blk_free r3 2
  have f3 := blk_free r3 3
  have hcp2 : ∀ ty x c', (Builtin.copy_ #[33, 33] ty #[.slice (some ⟨pc, 0, none⟩) m m, .slice x 0 c']).run Try.prog w4 = .ok (.int .i64 0) w4 := by
    intro ty x c'
    exact run_copy_none (P := Try.prog) w4 33 33 ty 5 _ x m m 0 c' Try.underlying33 (by kernel_rfl) (by simp)
  have z1 : IntKind.i64.wrap (k + n) = k + n := IntWalk.i64_in _ (by omega)
  have z2 : IntKind.i64.wrap (t + n) = t + n := IntWalk.i64_in _ (by omega)
  simp only [List.drop_succ_cons, List.drop_zero]
  go_wp2
  all_goals go_returns
  all_goals rw [HQ.out]
  all_goals refine ⟨rfl, (T3.cell 2 _).cell 3 _, ?_⟩
  all_goals exact { ring := (blk_set (blk_set r3 2 _) 3 _).trans rfl, cells := ((blk_far (Ne.symm hm.ne)).trans (blk_far (Ne.symm hm.ne))).trans c3, len := hlen2, ne := hm.ne, m1 := hm.m1, m2 := hm.m2, h0 := hm.h0, h1 := hm.h1, k0 := by omega, k1 := k1 }
end Go.Proofs.Ytckmahgkeinggaa
