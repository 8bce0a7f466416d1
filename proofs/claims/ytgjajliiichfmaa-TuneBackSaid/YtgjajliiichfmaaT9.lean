/- What the laws TuneBack and TuneLeast lean on, in plain numbers. -/
import Derived.Test.YtgjajliiichfmaaT7
import Derived.Test.YtgjajliiichfmaaT4
namespace Go.Proofs.Ytgjajliiichfmaa
open Go.RowKit

theorem mn_comm (x y : Int) : mn x y = mn y x := by unfold mn; split <;> split <;> omega
theorem mn_self (x : Int) : mn x x = x := by unfold mn; simp
theorem mn_left (x y : Int) : mn (mn x y) x = mn x y := by unfold mn; (repeat' split) <;> omega
theorem mn_or (x y : Int) : mn x y = x ∨ mn x y = y := by unfold mn; split <;> simp
theorem okT_mn {a b c d a' b' c' d' : Int} (h : okT a b c d) (h' : okT a' b' c' d') : okT (mn a a') (mn b b') (mn c c') (mn d d') := by
  unfold okT at *
  rcases mn_or a a' with e1 | e1 <;> rcases mn_or b b' with e2 | e2 <;> rcases mn_or c c' with e3 | e3 <;> rcases mn_or d d' with e4 | e4 <;> rw [e1, e2, e3, e4] <;> omega

theorem ap_step {v : V4} {i x : Int} {l : List (Int × Int)} (h1 : 1 ≤ i) (h2 : i ≤ 4) (h : okV (putV v i x)) : apV v ((i, x) :: l) = apV (putV v i x) l := by
  rw [apV, if_neg (by dsimp only; omega), if_pos h]
theorem dl_four (f t : Nat → Int) : dl f t 4 = ((if f 0 = t 0 then [] else [(1, t 0)]) ++ (if f 1 = t 1 then [] else [(2, t 1)])) ++ (if f 2 = t 2 then [] else [(3, t 2)]) ++ (if f 3 = t 3 then [] else [(4, t 3)]) := by
  simp only [dl]
  by_cases h1 : f 0 = t 0 <;> by_cases h2 : f 1 = t 1 <;> by_cases h3 : f 2 = t 2 <;> by_cases h4 : f 3 = t 3
  all_goals simp only [h1, h2, h3, h4, if_true, if_false, List.nil_append, List.append_nil]
  all_goals rfl

/-- The pairs between two values make the second ones of the first. -/
theorem apply_diff {x y : V4} (hx : okV x) (hy : okV y) : applyV x (dl (at4 x.1 x.2.1 x.2.2.1 x.2.2.2) (at4 y.1 y.2.1 y.2.2.1 y.2.2.2) 4) = (y, 0) := by
  obtain ⟨a, b, c, d⟩ := x
  obtain ⟨a', b', c', d'⟩ := y
  unfold applyV
  rw [if_pos hx]
  unfold okV okT at hx hy
  dsimp only at *
  have s0 : ∀ f t : Nat → Int, dl f t 4 = ((if f 0 = t 0 then [] else [(1, t 0)]) ++ (if f 1 = t 1 then [] else [(2, t 1)])) ++ (if f 2 = t 2 then [] else [(3, t 2)]) ++ (if f 3 = t 3 then [] else [(4, t 3)]) := dl_four
  rw [s0]
  by_cases h1 : a = a' <;> by_cases h2 : b = b' <;> by_cases h3 : c = c' <;> by_cases h4 : d = d'
  all_goals simp only [at4, h1, h2, h3, h4, if_true, if_false, List.nil_append, List.append_nil, List.cons_append]
  all_goals repeat (rw [ap_step (by decide) (by decide) (by unfold okV okT putV; dsimp only; simp only [show ¬ ((2 : Int) = 1) from by decide, show ¬ ((3 : Int) = 1) from by decide, show ¬ ((3 : Int) = 2) from by decide, show ¬ ((4 : Int) = 1) from by decide, show ¬ ((4 : Int) = 2) from by decide, show ¬ ((4 : Int) = 3) from by decide, if_true, if_false]; omega)]; simp only [putV, show ¬ ((2 : Int) = 1) from by decide, show ¬ ((3 : Int) = 1) from by decide, show ¬ ((3 : Int) = 2) from by decide, show ¬ ((4 : Int) = 1) from by decide, show ¬ ((4 : Int) = 2) from by decide, show ¬ ((4 : Int) = 3) from by decide, if_true, if_false])
  all_goals rfl
theorem apply_again {x y : V4} (hy : okV y) : applyV y (dl (at4 x.1 x.2.1 x.2.2.1 x.2.2.2) (at4 y.1 y.2.1 y.2.2.1 y.2.2.2) 4) = (y, 0) := by
  obtain ⟨a, b, c, d⟩ := x
  obtain ⟨a', b', c', d'⟩ := y
  unfold applyV
  rw [if_pos hy]
  unfold okV okT at hy
  dsimp only at *
  have s0 : ∀ f t : Nat → Int, dl f t 4 = ((if f 0 = t 0 then [] else [(1, t 0)]) ++ (if f 1 = t 1 then [] else [(2, t 1)])) ++ (if f 2 = t 2 then [] else [(3, t 2)]) ++ (if f 3 = t 3 then [] else [(4, t 3)]) := dl_four
  rw [s0]
  by_cases h1 : a = a' <;> by_cases h2 : b = b' <;> by_cases h3 : c = c' <;> by_cases h4 : d = d'
  all_goals simp only [at4, h1, h2, h3, h4, if_true, if_false, List.nil_append, List.append_nil, List.cons_append]
  all_goals repeat (rw [ap_step (by decide) (by decide) (by unfold okV okT putV; dsimp only; simp only [show ¬ ((2 : Int) = 1) from by decide, show ¬ ((3 : Int) = 1) from by decide, show ¬ ((3 : Int) = 2) from by decide, show ¬ ((4 : Int) = 1) from by decide, show ¬ ((4 : Int) = 2) from by decide, show ¬ ((4 : Int) = 3) from by decide, if_true, if_false]; omega)]; simp only [putV, show ¬ ((2 : Int) = 1) from by decide, show ¬ ((3 : Int) = 1) from by decide, show ¬ ((3 : Int) = 2) from by decide, show ¬ ((4 : Int) = 1) from by decide, show ¬ ((4 : Int) = 2) from by decide, show ¬ ((4 : Int) = 3) from by decide, if_true, if_false])
  all_goals rfl
theorem apply_pairs {x y : V4} (hx : okV x) (hy : okV y) : applyV x (pl (at4 y.1 y.2.1 y.2.2.1 y.2.2.2) 4) = (y, 0) := by
  obtain ⟨a, b, c, d⟩ := x
  obtain ⟨a', b', c', d'⟩ := y
  unfold applyV
  rw [if_pos hx]
  unfold okV okT at hx hy
  dsimp only at *
  show apV (a, b, c, d) [(1, a'), (2, b'), (3, c'), (4, d')] = _
  repeat (rw [ap_step (by decide) (by decide) (by unfold okV okT putV; dsimp only; simp only [show ¬ ((2 : Int) = 1) from by decide, show ¬ ((3 : Int) = 1) from by decide, show ¬ ((3 : Int) = 2) from by decide, show ¬ ((4 : Int) = 1) from by decide, show ¬ ((4 : Int) = 2) from by decide, show ¬ ((4 : Int) = 3) from by decide, if_true, if_false]; omega)]; simp only [putV, show ¬ ((2 : Int) = 1) from by decide, show ¬ ((3 : Int) = 1) from by decide, show ¬ ((3 : Int) = 2) from by decide, show ¬ ((4 : Int) = 1) from by decide, show ¬ ((4 : Int) = 2) from by decide, show ¬ ((4 : Int) = 3) from by decide, if_true, if_false])
  rfl
theorem diff_nil {x y : V4} : (dl (at4 x.1 x.2.1 x.2.2.1 x.2.2.2) (at4 y.1 y.2.1 y.2.2.1 y.2.2.2) 4).length = 0 ↔ x = y := by
  obtain ⟨a, b, c, d⟩ := x
  obtain ⟨a', b', c', d'⟩ := y
  dsimp only
  by_cases h1 : a = a' <;> by_cases h2 : b = b' <;> by_cases h3 : c = c' <;> by_cases h4 : d = d'
  all_goals simp [dl, at4, h1, h2, h3, h4]

theorem room_less {a b c a' b' : Int} (h0 : 0 ≤ a) (h0' : 0 ≤ a') (hb : 1 ≤ b) (hb' : 1 ≤ b') (h : roomV a b c = true) : roomV (mn a a') (mn b b') c = true := by
  unfold roomV at *
  have h := of_decide_eq_true h
  refine decide_eq_true ?_
  have e1 : mn a a' ≤ a := by unfold mn; split <;> omega
  have e2 : mn b b' ≤ b := by unfold mn; split <;> omega
  have e3 : 1 ≤ mn b b' := by unfold mn; split <;> omega
  have e4 : 0 ≤ mn a a' := by unfold mn; split <;> omega
  refine Int.le_trans (Int.mul_le_mul e2 ?_ (by split <;> omega) (by omega)) h
  split <;> split <;> omega

/-- A setting of another number changes nothing. -/
theorem apply_none {x : V4} (hx : okV x) (v : Int) : applyV x [(5, v), (0, v), (-1, v)] = (x, 0) := by
  unfold applyV
  rw [if_pos hx]
  simp [apV]
/-- One setting that is taken. -/
theorem apply_one (x : V4) (i v : Int) : (applyV x [(i, v)]).2 = 0 → okV (applyV x [(i, v)]).1 ∧ (i < 1 ∨ 4 < i ∨ (applyV x [(i, v)]).1.1 = v ∨ (applyV x [(i, v)]).1.2.1 = v ∨ (applyV x [(i, v)]).1.2.2.1 = v ∨ (applyV x [(i, v)]).1.2.2.2 = v) := by
  unfold applyV
  by_cases hx : okV x
  · rw [if_pos hx]
    simp only [apV]
    by_cases ho : i < 1 ∨ 4 < i
    · rw [if_pos ho]
      intro _
      exact ⟨hx, by omega⟩
    · rw [if_neg ho]
      by_cases hk : okV (putV x i v)
      · rw [if_pos hk]
        intro _
        refine ⟨hk, ?_⟩
        unfold putV
        by_cases e1 : i = 1
        · rw [if_pos e1]; simp
        · rw [if_neg e1]
          by_cases e2 : i = 2
          · rw [if_pos e2]; simp
          · rw [if_neg e2]
            by_cases e3 : i = 3
            · rw [if_pos e3]; simp
            · rw [if_neg e3]; simp
      · rw [if_neg hk]
        unfold codeV
        intro h
        split at h <;> simp at h
  · rw [if_neg hx]
    intro h
    simp at h
end Go.Proofs.Ytgjajliiichfmaa
