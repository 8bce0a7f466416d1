/- What stands in a ring, as a list: what Drop and Peek make of it, in plain lists. -/
import Derived.Test.YtckmahgkeinggaaT12
namespace Go.Proofs.Ytckmahgkeinggaa
open Go.RowKit

theorem zeros_len (n : Nat) : (zeros n).length = n := by simp [zeros]

/-- Drop: the first ones are gone. -/
theorem cont_drop {cur : List Value} {h k n h' f : Nat} (hh : h < cur.length) (hk : k ≤ cur.length) (hn : n ≤ k) (hh' : h' = (h + n) % cur.length) (hf : f = if h + n ≤ cur.length then n else cur.length - h) :
    cont (put (put cur h (zeros f)) 0 (zeros (n - f))) h' (k - n) = (cont cur h k).drop n := by
  have hfa : h + f ≤ cur.length := by rw [hf]; split <;> omega
  have hfn : f ≤ n := by rw [hf]; split <;> omega
  have hlt : h' < cur.length := by rw [hh']; exact Nat.mod_lt _ (by omega)
  have l3 : (put cur h (zeros f)).length = cur.length := put_len _ _ _ (by rw [zeros_len]; omega)
  have l4 : (put (put cur h (zeros f)) 0 (zeros (n - f))).length = cur.length := by rw [put_len _ _ _ (by rw [zeros_len]; omega)]; exact l3
  apply List.ext_getElem?
  intro i
  by_cases hi : i < k - n
  · rw [cont_get (by omega) (by omega) hi, l4, put_get (by rw [zeros_len]; omega), zeros_len, put_get (by rw [zeros_len]; omega), zeros_len, List.getElem?_drop, cont_get hh hk (show n + i < k by omega)]
    have h1 := mod_two (h + n) cur.length (by omega)
    rw [← hh'] at h1
    have h2 := mod_two (h' + i) cur.length (by omega)
    have h3 := mod_two (h + (n + i)) cur.length (by omega)
    have hf2 : (h + n ≤ cur.length ∧ f = n) ∨ (cur.length < h + n ∧ f = cur.length - h) := by
      rw [hf]
      split <;> omega
    generalize (h' + i) % cur.length = j at *
    generalize (h + (n + i)) % cur.length = j2 at *
    clear hh' hf
    rw [if_neg (by omega), if_neg (by omega)]
    congr 1
    omega
  · rw [List.getElem?_eq_none (by rw [cont_len (by omega) (by omega)]; omega), List.getElem?_eq_none (by rw [List.length_drop, cont_len (by omega) (by omega)]; omega)]

/-- Peek: what is told, where it need not go round, and where it goes round. -/
theorem cont_peek {cur : List Value} {h k f n a : Nat} (hh : h < cur.length) (hk : k ≤ cur.length) (hn : f + n ≤ k) (ha : a = (h + f) % cur.length) (h0 : 0 < n) :
    (a + n ≤ cur.length → (cur.drop a).take n = ((cont cur h k).drop f).take n) ∧ (cur.length < a + n → cur.drop a ++ cur.take (n - (cur.length - a)) = ((cont cur h k).drop f).take n) := by
  have ham : a < cur.length := by rw [ha]; exact Nat.mod_lt _ (by omega)
  have lr : (((cont cur h k).drop f).take n).length = n := by simp [cont_len (show h ≤ cur.length by omega) hk]; omega
  have h1 := mod_two (h + f) cur.length (by omega)
  rw [← ha] at h1
  clear ha
  refine ⟨fun hfit => ?_, fun hfit => ?_⟩
  · apply List.ext_getElem?
    intro i
    by_cases hi : i < n
    · rw [List.getElem?_take_of_lt hi, List.getElem?_take_of_lt hi, List.getElem?_drop, List.getElem?_drop, cont_get hh hk (show f + i < k by omega)]
      have h2 := mod_two (h + (f + i)) cur.length (by omega)
      congr 1
      omega
    · rw [List.getElem?_eq_none (by simp; omega), List.getElem?_eq_none (by omega)]
  · apply List.ext_getElem?
    intro i
    by_cases hi : i < n
    · rw [List.getElem?_take_of_lt (l := List.drop f (cont cur h k)) hi, List.getElem?_drop, cont_get hh hk (show f + i < k by omega)]
      have h2 := mod_two (h + (f + i)) cur.length (by omega)
      by_cases c : i < cur.length - a
      · rw [List.getElem?_append_left (by simp; omega), List.getElem?_drop]
        congr 1
        omega
      · rw [List.getElem?_append_right (by simp; omega), List.length_drop, List.getElem?_take_of_lt (by omega)]
        congr 1
        omega
    · rw [List.getElem?_eq_none (by simp; omega), List.getElem?_eq_none (by omega)]
end Go.Proofs.Ytckmahgkeinggaa
