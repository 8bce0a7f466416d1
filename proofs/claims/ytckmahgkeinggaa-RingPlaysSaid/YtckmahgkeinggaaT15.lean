/- The contracts of Peek and Drop of the package ring by what stands there. -/
import Derived.Test.YtckmahgkeinggaaT14
import Derived.Test.YtckmahgkeinggaaT9
import Derived.Test.YtckmahgkeinggaaT10
namespace Go.Proofs.Ytckmahgkeinggaa
open Go.RowKit

/-- What Peek tells. -/
def lookV (l : List Value) (f n : Int) : List Value := if f < 0 ∨ n < 1 then [] else (l.drop f.toNat).take n.toNat

theorem peek_is {w : World} {pr pc m : Nat} {t : Int} {l : List Value} (hr : RingIs w pr pc m t l) (f n : Int) :
    Calls Try.prog 18 #[.pointer (some ⟨pr, 0, none⟩), .int .i64 f, .int .i64 n] w fun e w' => Below w.heap.size w w' ∧
      ((e = .returned (.slice none 0 0) ∧ lookV l f n = []) ∨ ∃ pb, e = .returned (.slice (some ⟨pb, 0, none⟩) (lookV l f n).length (lookV l f n).length) ∧ w.heap.size ≤ pb ∧ w'.heap[pb]? = some (.cells (lookV l f n).toArray 5 (0, 0))) := by
  obtain ⟨h, k, cur, hm, hcb, rfl⟩ := hr.is
  have g1 := hm.h1
  have g2 := hm.k1
  have g3 := hm.len
  have g4 := hm.m1
  have hlen : (cont cur h k).length = k := cont_len (by omega) (by omega)
  by_cases h0 : f < 0 ∨ (k : Int) < f ∨ n < 1 ∨ f = k
  · refine (peek_zero hm f n h0).mono ?_
    rintro e w' ⟨rfl, hb⟩
    refine ⟨hb, .inl ⟨rfl, ?_⟩⟩
    unfold lookV
    split
    · rfl
    · rw [List.drop_eq_nil_of_le (by omega), List.take_nil]
  · obtain ⟨f', rfl⟩ : ∃ f' : Nat, f = f' := ⟨f.toNat, by omega⟩
    obtain ⟨n', hn⟩ : ∃ n' : Nat, (n' : Int) = if (k : Int) - f' < n then (k : Int) - f' else n := ⟨(if (k : Int) - f' < n then (k : Int) - f' else n).toNat, by split <;> omega⟩
    have hn0 : 0 < n' := by
      have : (0 : Int) < n' := by rw [hn]; split <;> omega
      omega
    have hfk : f' + n' ≤ k := by
      have : (n' : Int) ≤ (k : Int) - f' := by rw [hn]; split <;> omega
      omega
    have hlook : lookV (cont cur h k) f' n = ((cont cur h k).drop f').take n' := by
      unfold lookV
      rw [if_neg (by omega)]
      split at hn
      · rw [List.take_of_length_le (by simp [hlen]; omega), List.take_of_length_le (by simp [hlen]; omega)]
        rfl
      · rw [show n.toNat = n' by omega]
        rfl
    have hll : (lookV (cont cur h k) f' n).length = n' := by rw [hlook]; simp [hlen]; omega
    have ha : (((h + f') % m : Nat) : Int) = ((h : Int) + f') % m := by simp
    have ham : (h + f') % m < m := Nat.mod_lt _ (by omega)
    obtain ⟨p1, p2⟩ := cont_peek (cur := cur) (h := h) (k := k) (f := f') (n := n') (a := (h + f') % m) (by omega) (by omega) hfk (by rw [g3]) hn0
    by_cases hfit : (h + f') % m + n' ≤ m
    · refine (peek_flat hm f' n ((h + f') % m) n' hcb (by omega) (by omega) (by omega) ha hn0 hn hfit).mono ?_
      rintro e w' ⟨pb, rfl, hp, hb, hh⟩
      refine ⟨hb, .inr ⟨pb, by rw [hll], hp, ?_⟩⟩
      rw [hh, hlook, p1 (by omega)]
    · refine (peek_round hm f' n ((h + f') % m) n' hcb (by omega) (by omega) (by omega) ha hn0 hn (m - (h + f') % m) (by omega) (by omega) (by omega)).mono ?_
      rintro e w' ⟨pb, rfl, hp, hb, hh⟩
      refine ⟨hb, .inr ⟨pb, by rw [hll], hp, ?_⟩⟩
      rw [hh, hlook, ← p2 (by omega), g3]

/-- How many Drop lets go. -/
def goV (l : List Value) (n : Int) : Nat := if n < 1 then 0 else if (l.length : Int) < n then l.length else n.toNat

theorem bytes1_zeros (n : Nat) : Bytes1 (zeros n) := by
  intro v hv
  rw [List.eq_of_mem_replicate hv]
  rfl

theorem drop_is {w : World} {pr pc m : Nat} {t : Int} {l : List Value} (hr : RingIs w pr pc m t l) (n : Int) :
    Calls Try.prog 12 #[.pointer (some ⟨pr, 0, none⟩), .int .i64 n] w fun e w' => e = .returned (.int .i64 (goV l n)) ∧ Touch w w' pr pc ∧ RingIs w' pr pc m t (l.drop (goV l n)) := by
  obtain ⟨h, k, cur, hm, hcb, rfl⟩ := hr.is
  have g1 := hm.h1
  have g2 := hm.k1
  have g3 := hm.len
  have g4 := hm.m1
  have hlen : (cont cur h k).length = k := cont_len (by omega) (by omega)
  by_cases h0 : n < 1 ∨ (k : Int) = 0
  · have hz : goV (cont cur h k) n = 0 := by
      unfold goV
      rw [hlen]
      split
      · rfl
      · split <;> omega
    rw [hz]
    refine (drop_zero hm n h0).mono ?_
    rintro e w' ⟨rfl, hb⟩
    exact ⟨rfl, (Touch.refl w pr pc).grow hb (blk_lt hm.ring), by rw [List.drop_zero]; exact hr.below hb⟩
  · obtain ⟨n', hn⟩ : ∃ n' : Nat, n' = goV (cont cur h k) n := ⟨_, rfl⟩
    rw [← hn]
    unfold goV at hn
    rw [hlen, if_neg (by omega)] at hn
    have hn2 : (n' : Int) = if (k : Int) < n then (k : Int) else n := by
      rw [hn]
      split <;> omega
    have hn0 : 0 < n' ∧ n' ≤ k := by rw [hn]; split <;> omega
    have hh' : (((h + n') % m : Nat) : Int) = ((h : Int) + n') % m := by simp
    by_cases hfit : h + n' ≤ m
    · refine (drop_flat hm n h ((h + n') % m) n' (by omega) rfl hh' hn0.1 hn2 hfit).mono ?_
      rintro e w' ⟨rfl, hT, hm'⟩
      have := cont_drop (cur := cur) (h := h) (k := k) (n := n') (h' := (h + n') % m) (f := n') (by omega) (by omega) hn0.2 (by rw [g3]) (by rw [g3, if_pos hfit])
      refine ⟨rfl, hT, ⟨(h + n') % m, k - n', _, by rw [show ((k - n' : Nat) : Int) = (k : Int) - n' by omega]; exact hm', bytes1_put hcb (bytes1_zeros _), ?_⟩⟩
      rw [← this]
      simp [put, zeros]
    · refine (drop_round hm n h ((h + n') % m) n' (by omega) rfl hh' hn0.1 hn2 (m - h) (by omega) (by omega) (by omega)).mono ?_
      rintro e w' ⟨rfl, hT, hm'⟩
      have := cont_drop (cur := cur) (h := h) (k := k) (n := n') (h' := (h + n') % m) (f := m - h) (by omega) (by omega) hn0.2 (by rw [g3]) (by rw [g3, if_neg hfit])
      exact ⟨rfl, hT, ⟨(h + n') % m, k - n', _, by rw [show ((k - n' : Nat) : Int) = (k : Int) - n' by omega]; exact hm', bytes1_put (bytes1_put hcb (bytes1_zeros _)) (bytes1_zeros _), this.symm⟩⟩
end Go.Proofs.Ytckmahgkeinggaa
