/- Plain facts: the numbers that bytes are. -/
import Derived.Test.YtgiijgnajhlpeaaV1
namespace Go.Proofs.Ytgiijgnajhlpeaa

/-- What is told of many: behind numbers that are got already. -/
def behindR (xs : List Nat) (r : List Nat × Nat) : List Nat × Nat := if r.2 = 0 then (xs ++ r.1, 0) else ([], r.2)
def allF : Nat → List UInt8 → List Nat × Nat
  | 0, _ => ([], 0)
  | f + 1, l => if l = [] then ([], 0) else if (getP l).2.2 = 0 then behindR [(getP l).1] (allF f (l.drop (getP l).2.1)) else ([], (getP l).2.2)
/-- The numbers that bytes are, and the error. -/
def allP (l : List UInt8) : List Nat × Nat := allF l.length l

theorem behind_nil (r : List Nat × Nat) (h : r.2 ≠ 0 → r.1 = []) : behindR [] r = r := by
  unfold behindR
  split
  · rename_i h0; rw [List.nil_append, ← h0]
  · rename_i h0; rw [← h h0]
theorem behind_behind (xs ys : List Nat) (r : List Nat × Nat) : behindR xs (behindR ys r) = behindR (xs ++ ys) r := by
  unfold behindR
  by_cases h : r.2 = 0
  · rw [if_pos h, if_pos h]
    simp
  · rw [if_neg h, if_neg h]
    simp [h]
theorem get_pos {l : List UInt8} (h : (getP l).2.2 = 0) : 1 ≤ (getP l).2.1 ∧ (getP l).2.1 ≤ l.length ∧ (getP l).2.1 ≤ 8 ∧ (getP l).1 ≤ 4611686018427387903 := by
  obtain ⟨_, h1, h2, h3, _, h4, _⟩ := get_ok (l := l) (n := (getP l).1) (s := (getP l).2.1) (by rw [← h])
  exact ⟨h1, h2, h3, h4⟩
theorem allF_more : ∀ (f g : Nat) (l : List UInt8), l.length ≤ f → l.length ≤ g → allF f l = allF g l
  | 0, g, l, h, _ => by
    have : l = [] := List.eq_nil_of_length_eq_zero (by omega)
    subst this
    cases g <;> simp [allF]
  | f + 1, 0, l, _, h => by
    have : l = [] := List.eq_nil_of_length_eq_zero (by omega)
    subst this
    simp [allF]
  | f + 1, g + 1, l, h1, h2 => by
    unfold allF
    by_cases hl : l = []
    · rw [if_pos hl, if_pos hl]
    · rw [if_neg hl, if_neg hl]
      by_cases he : (getP l).2.2 = 0
      · rw [if_pos he, if_pos he]
        obtain ⟨h3, h4, _⟩ := get_pos he
        rw [allF_more f g (l.drop (getP l).2.1) (by rw [List.length_drop]; omega) (by rw [List.length_drop]; omega)]
      · rw [if_neg he, if_neg he]
theorem all_nil : allP [] = ([], 0) := rfl
theorem all_ok {l : List UInt8} (h : (getP l).2.2 = 0) : allP l = behindR [(getP l).1] (allP (l.drop (getP l).2.1)) := by
  obtain ⟨h1, h2, _⟩ := get_pos h
  unfold allP
  have e : l.length = (l.length - 1) + 1 := by omega
  rw [e]
  rw [allF]
  rw [if_neg (by intro hc; subst hc; simp at h2; omega), if_pos h, allF_more (l.length - 1) (l.drop (getP l).2.1).length _ (by rw [List.length_drop]; omega) (Nat.le_refl _)]
theorem all_bad {l : List UInt8} (hl : l ≠ []) (h : (getP l).2.2 ≠ 0) : allP l = ([], (getP l).2.2) := by
  unfold allP
  have : 1 ≤ l.length := by
    cases l with
    | nil => exact absurd rfl hl
    | cons b r => simp
  have e : l.length = (l.length - 1) + 1 := by omega
  rw [e, allF, if_neg hl, if_neg h]
theorem behind_bad (xs : List Nat) (e : Nat) (h : e ≠ 0) : behindR xs ([], e) = ([], e) := by unfold behindR; rw [if_neg h]
theorem behind_ok (xs ys : List Nat) : behindR xs (ys, 0) = (xs ++ ys, 0) := by unfold behindR; rw [if_pos rfl]
theorem allF_len : ∀ (f : Nat) (l : List UInt8), (allF f l).1.length ≤ f
  | 0, _ => by simp [allF]
  | f + 1, l => by
    unfold allF
    split
    · simp
    · split
      · have := allF_len f (l.drop (getP l).2.1)
        unfold behindR
        split
        · simp; omega
        · simp
      · simp
theorem all_len (l : List UInt8) : (allP l).1.length ≤ l.length := allF_len _ _
end Go.Proofs.Ytgiijgnajhlpeaa
