/- What stands in a ring, as a list: what Push, Peek and Drop make of it, in plain lists. -/
import Derived.Test.YtckmahgkeinggaaT11
namespace Go.Proofs.Ytckmahgkeinggaa
open Go.RowKit

/-- What stands in a ring, in order. -/
def cont (cur : List Value) (h k : Nat) : List Value := (cur.drop h ++ cur.take h).take k

theorem cont_len {cur : List Value} {h k : Nat} (hh : h ≤ cur.length) (hk : k ≤ cur.length) : (cont cur h k).length = k := by
  simp [cont]; omega
theorem cont_get {cur : List Value} {h k i : Nat} (hh : h < cur.length) (hk : k ≤ cur.length) (hi : i < k) : (cont cur h k)[i]? = cur[(h + i) % cur.length]? := by
  unfold cont
  rw [List.getElem?_take_of_lt hi]
  by_cases c : h + i < cur.length
  · rw [List.getElem?_append_left (by simp; omega), List.getElem?_drop, Nat.mod_eq_of_lt c]
  · rw [List.getElem?_append_right (by simp; omega), List.getElem?_take_of_lt (by simp; omega)]
    have e : (h + i) % cur.length = h + i - cur.length := by
      rw [Nat.mod_eq_sub_mod (by omega), Nat.mod_eq_of_lt (by omega)]
    rw [e]
    congr 1
    simp
    omega
theorem put_get {cur xs : List Value} {o j : Nat} (h : o + xs.length ≤ cur.length) : (put cur o xs)[j]? = if o ≤ j ∧ j < o + xs.length then xs[j - o]? else cur[j]? := by
  unfold put
  by_cases c1 : j < o
  · rw [if_neg (by omega), List.append_assoc, List.getElem?_append_left (by simp; omega), List.getElem?_take_of_lt c1]
  · by_cases c2 : j < o + xs.length
    · rw [if_pos ⟨by omega, c2⟩, List.getElem?_append_left (by simp; omega), List.getElem?_append_right (by simp; omega)]
      congr 1
      simp
      omega
    · rw [if_neg (by omega), List.getElem?_append_right (by simp; omega), List.getElem?_drop]
      congr 1
      simp
      omega

theorem mod_two (x m : Nat) (h : x < m + m) : (x < m ∧ x % m = x) ∨ (m ≤ x ∧ x % m = x - m) := by
  by_cases c : x < m
  · exact .inl ⟨c, Nat.mod_eq_of_lt c⟩
  · exact .inr ⟨by omega, by rw [Nat.mod_eq_sub_mod (by omega), Nat.mod_eq_of_lt (by omega)]⟩

/-- Push: what goes in stands behind. -/
theorem cont_push {cur bs : List Value} {h k n a f : Nat} (hh : h < cur.length) (hk : k + n ≤ cur.length) (hn : n ≤ bs.length) (ha : a = (h + k) % cur.length) (hf : f = if a + n ≤ cur.length then n else cur.length - a) :
    cont (put (put cur a (bs.take f)) 0 ((bs.drop f).take (n - f))) h (k + n) = cont cur h k ++ bs.take n := by
  have ham : a < cur.length := by rw [ha]; exact Nat.mod_lt _ (by omega)
  have hfn : f ≤ n := by rw [hf]; split <;> omega
  have hfa : a + f ≤ cur.length := by rw [hf]; split <;> omega
  have l1 : (bs.take f).length = f := by simp; omega
  have l2 : ((bs.drop f).take (n - f)).length = n - f := by simp; omega
  have l3 : (put cur a (bs.take f)).length = cur.length := put_len _ _ _ (by omega)
  have l4 : (put (put cur a (bs.take f)) 0 ((bs.drop f).take (n - f))).length = cur.length := by rw [put_len _ _ _ (by omega)]; exact l3
  apply List.ext_getElem?
  intro i
  by_cases hi : i < k + n
  · rw [cont_get (by omega) (by omega) hi, l4, put_get (by omega), l2, put_get (by omega), l1]
    have hm := mod_two (h + i) cur.length (by omega)
    have ha2 := mod_two (h + k) cur.length (by omega)
    rw [← ha] at ha2
    have hf2 : (a + n ≤ cur.length ∧ f = n) ∨ (cur.length < a + n ∧ f = cur.length - a) := by
      rw [hf]
      split <;> omega
    have hcg : ∀ hik : i < k, (cont cur h k)[i]? = cur[(h + i) % cur.length]? := fun hik => cont_get hh (by omega) hik
    generalize (h + i) % cur.length = j at *
    clear ha hf
    by_cases hik : i < k
    · rw [List.getElem?_append_left (by rw [cont_len (by omega) (by omega)]; exact hik), hcg hik]
      rw [if_neg (by omega), if_neg (by omega)]
    · rw [List.getElem?_append_right (by rw [cont_len (by omega) (by omega)]; omega), cont_len (by omega) (by omega), List.getElem?_take_of_lt (l := bs) (show i - k < n by omega)]
      by_cases c1 : 0 ≤ j ∧ j < 0 + (n - f)
      · rw [if_pos c1, List.getElem?_take_of_lt (show j - 0 < n - f by omega), List.getElem?_drop]
        congr 1
        omega
      · rw [if_neg c1, if_pos (by omega), List.getElem?_take_of_lt (show j - a < f by omega)]
        congr 1
        omega
  · rw [List.getElem?_eq_none (by rw [cont_len (by omega) (by omega)]; omega), List.getElem?_eq_none (by rw [List.length_append, cont_len (by omega) (by omega)]; simp; omega)]
end Go.Proofs.Ytckmahgkeinggaa
