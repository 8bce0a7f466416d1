/- The contract of Push of the package ring by what stands there: what goes in stands behind it. -/
import Derived.Test.YtckmahgkeinggaaT13
import Derived.Test.YtckmahgkeinggaaT8
namespace Go.Proofs.Ytckmahgkeinggaa
open Go.RowKit

theorem bytes1_put {cur xs : List Value} {o : Nat} (h : Bytes1 cur) (h2 : Bytes1 xs) : Bytes1 (put cur o xs) := by
  intro v hv
  unfold put at hv
  rcases List.mem_append.1 hv with hv | hv
  · rcases List.mem_append.1 hv with hv | hv
    · exact h v (List.mem_of_mem_take hv)
    · exact h2 v hv
  · exact h v (List.mem_of_mem_drop hv)

/-- A ring in memory, and what stands there. -/
structure RingIs (w : World) (pr pc m : Nat) (t : Int) (l : List Value) : Prop where
  is : ∃ (h k : Nat) (cur : List Value), InMem w pr pc m h k t cur ∧ Bytes1 cur ∧ l = cont cur h k

theorem RingIs.len {w : World} {pr pc m : Nat} {t : Int} {l : List Value} (h : RingIs w pr pc m t l) : l.length ≤ m := by
  obtain ⟨h0, k, cur, hm, _, rfl⟩ := h.is
  have h1 := hm.h1
  have h2 := hm.k1
  have h3 := hm.len
  rw [cont_len (by omega) (by omega)]
  omega
theorem RingIs.below {w w' : World} {pr pc m : Nat} {t : Int} {l : List Value} (h : RingIs w pr pc m t l) (hb : Below w.heap.size w w') : RingIs w' pr pc m t l := by
  obtain ⟨h0, k, cur, hm, h1, h2⟩ := h.is
  exact ⟨h0, k, cur, hm.below hb, h1, h2⟩

theorem push_is {w : World} {pr pc m : Nat} {t : Int} {l bs : List Value} (hr : RingIs w pr pc m t l) (ab ao c n : Nat) (hb : Bys w (some ⟨ab, ao, none⟩) bs) (hab : ab ≠ pr) (hac : ab ≠ pc) (hl : bs.length ≤ 1000) (h1 : Bytes1 bs) (hc : bs.length ≤ c)
    (hn : n = if m - l.length < bs.length then m - l.length else bs.length) (ht : 0 ≤ t ∧ t ≤ 1000000) :
    Calls Try.prog 13 #[.pointer (some ⟨pr, 0, none⟩), .slice (some ⟨ab, ao, none⟩) bs.length c] w fun e w' => e = .returned (.int .i64 n) ∧ Touch w w' pr pc ∧ RingIs w' pr pc m (t + n) (l ++ bs.take n) := by
  obtain ⟨h, k, cur, hm, hcb, rfl⟩ := hr.is
  have g1 := hm.h1
  have g2 := hm.k1
  have g3 := hm.len
  have g4 := hm.m1
  rw [cont_len (by omega) (by omega)] at hn
  have hnb : n ≤ bs.length ∧ k + n ≤ m := by rw [hn]; split <;> omega
  by_cases h0 : n = 0
  · have hz : bs.length = 0 ∨ (k : Int) = m := by
      rw [hn] at h0
      split at h0 <;> omega
    subst h0
    refine (push_zero hm (some ⟨ab, ao, none⟩) bs.length c hz).mono ?_
    rintro e w' ⟨rfl, hb'⟩
    refine ⟨rfl, (Touch.refl w pr pc).grow hb' (blk_lt hm.ring), ?_⟩
    rw [List.take_zero, List.append_nil]
    exact ⟨h, k, cur, by simpa using hm.below hb', hcb, rfl⟩
  · have ha : (((h + k) % m : Nat) : Int) = ((h : Int) + k) % m := by simp
    have ham : (h + k) % m < m := Nat.mod_lt _ (by omega)
    have hn' : (n : Int) = if (m : Int) - k < bs.length then (m : Int) - k else bs.length := by
      rw [hn]
      split <;> split <;> omega
    by_cases hfit : (h + k) % m + n ≤ m
    · refine (push_flat hm ab ao c ((h + k) % m) n hb hab hac hl h1 hc ha (by omega) hn' hfit ht).mono ?_
      rintro e w' ⟨rfl, hT, hm'⟩
      refine ⟨rfl, hT, ⟨h, k + n, _, by simpa using hm', bytes1_put hcb (fun v hv => h1 v (List.mem_of_mem_take hv)), ?_⟩⟩
      have := cont_push (cur := cur) (bs := bs) (h := h) (k := k) (n := n) (a := (h + k) % m) (f := n) (by omega) (by omega) hnb.1 (by rw [g3]) (by rw [g3, if_pos hfit])
      rw [Nat.sub_self, List.take_zero] at this
      rw [← this]
      unfold put
      simp
    · have hf0 : 0 < m - (h + k) % m := by omega
      refine (push_round hm ab ao c ((h + k) % m) n hb hab hac hl h1 hc ha (by omega) hn' (m - (h + k) % m) hf0 (by omega) (by omega) ht).mono ?_
      rintro e w' ⟨rfl, hT, hm'⟩
      refine ⟨rfl, hT, ⟨h, k + n, _, by simpa using hm', bytes1_put (bytes1_put hcb (fun v hv => h1 v (List.mem_of_mem_take hv))) (fun v hv => h1 v (List.mem_of_mem_drop (List.mem_of_mem_take hv))), ?_⟩⟩
      exact (cont_push (cur := cur) (bs := bs) (h := h) (k := k) (n := n) (a := (h + k) % m) (f := m - (h + k) % m) (by omega) (by omega) hnb.1 (by rw [g3]) (by rw [g3, if_neg hfit])).symm
end Go.Proofs.Ytckmahgkeinggaa
