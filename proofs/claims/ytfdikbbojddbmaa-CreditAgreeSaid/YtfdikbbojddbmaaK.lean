/- What CreditSteps leans on: what is spent, reached and eaten in two steps, by the plain functions. -/
import Derived.Test.YtfdikbbojddbmaaC5
namespace Go.Proofs.Ytfdikbbojddbmaa
open Go.RowKit

theorem okw {w c d : Int} (h1 : 1 ≤ w) (h2 : w ≤ 256) (h3 : 0 ≤ d) (h4 : d ≤ c) (h5 : c ≤ w) : ok4 (w, w, c, d) := ⟨h3, h4, h5, by dsimp only; omega, h1, by dsimp only; omega⟩

theorem new_w {w : Int} (h1 : 1 ≤ w) (h2 : w ≤ 256) : newV w = ((w, w, 0, 0), 0) := by
  unfold newV
  rw [if_pos ⟨h1, by omega⟩]

theorem reach_w {w c n : Int} (h1 : 1 ≤ w) (h2 : w ≤ 256) (h3 : 0 ≤ c) (h4 : c ≤ n) (h5 : n ≤ w) : reachV (w, w, c, 0) n = ((w, w, n, 0), n - c, true) := by
  unfold reachV
  rw [if_pos ⟨okw h1 h2 (Int.le_refl _) h3 (by omega), by omega, h5⟩]
  by_cases h : n ≤ c
  · obtain rfl : n = c := by omega
    simp
  · rw [if_neg h]

theorem reach_over {w : Int} : reachV (w, w, 0, 0) (w + 1) = ((w, w, 0, 0), 0, false) := by
  unfold reachV
  rw [if_neg (fun h => by have := h.2.2; dsimp only at this; omega)]

theorem eat_w {w c d n : Int} (h1 : 1 ≤ w) (h2 : w ≤ 256) (h3 : 0 ≤ d) (h4 : d ≤ c) (h5 : c ≤ w) (hn : 0 ≤ n) : eatV (w, w, c, d) n = (w, w, c, if n ≤ c - d then d + n else c) := by
  unfold eatV
  by_cases h : 1 ≤ n
  · rw [if_pos ⟨okw h1 h2 h3 h4 h5, h⟩]
    dsimp only
    split <;> rfl
  · obtain rfl : n = 0 := by omega
    rw [if_neg (fun e => h e.2), if_pos (by omega)]
    simp

theorem spend_w {w c n : Int} (h1 : 1 ≤ w) (h2 : w ≤ 256) (h3 : 0 ≤ c) (h4 : c ≤ w) (hn : 0 ≤ n) : spendV (w, w, c, 0) n = if c + n ≤ w then ((w, w, c + n, 0), true) else ((w, w, c, 0), false) := by
  unfold spendV
  by_cases h : c + n ≤ w
  · rw [if_pos ⟨okw h1 h2 (Int.le_refl _) h3 h4, hn, by dsimp only; omega⟩, if_pos h]
  · rw [if_neg (fun e => by have := e.2.2; dsimp only at this; omega), if_neg h]

/-- What the law asks of the two ways. -/
theorem steps_spend {w a b : Int} (h1 : 1 ≤ w) (h2 : w ≤ 256) (ha : 0 ≤ a) (hb : 0 ≤ b) {i k is : Bool} {x1 x y : L4} (e1 : spendV (w, w, 0, 0) a = (x1, i)) (e2 : spendV x1 b = (x, k)) (e3 : spendV (w, w, 0, 0) (a + b) = (y, is)) :
    (i = false ∧ is = false) ∨ (i = true ∧ k = false ∧ is = false) ∨ (i = true ∧ k = true ∧ is = true ∧ x = y) := by
  rw [spend_w h1 h2 (Int.le_refl _) (by omega) ha] at e1
  rw [spend_w h1 h2 (Int.le_refl _) (by omega) (by omega)] at e3
  by_cases g1 : 0 + a ≤ w
  · rw [if_pos g1] at e1
    obtain ⟨rfl, rfl⟩ := Prod.mk.inj e1
    rw [spend_w h1 h2 (by omega) (by omega) hb] at e2
    by_cases g2 : 0 + a + b ≤ w
    · rw [if_pos g2] at e2
      rw [if_pos (by omega)] at e3
      obtain ⟨rfl, rfl⟩ := Prod.mk.inj e2
      obtain ⟨rfl, rfl⟩ := Prod.mk.inj e3
      exact .inr (.inr ⟨rfl, rfl, rfl, by rw [Int.add_assoc]⟩)
    · rw [if_neg g2] at e2
      rw [if_neg (by omega)] at e3
      obtain ⟨rfl, rfl⟩ := Prod.mk.inj e2
      obtain ⟨rfl, rfl⟩ := Prod.mk.inj e3
      exact .inr (.inl ⟨rfl, rfl, rfl⟩)
  · rw [if_neg g1] at e1
    rw [if_neg (by omega)] at e3
    obtain ⟨rfl, rfl⟩ := Prod.mk.inj e1
    obtain ⟨rfl, rfl⟩ := Prod.mk.inj e3
    exact .inl ⟨rfl, rfl⟩

theorem steps_eat {w q c : Int} (h1 : 1 ≤ w) (h2 : w ≤ 256) (hq : 0 ≤ q) (hw : q ≤ w) (hc : 0 ≤ c) : eatV (eatV (w, w, q, 0) (c / 2)) (c - c / 2) = eatV (w, w, q, 0) c := by
  rw [eat_w h1 h2 (Int.le_refl _) hq hw (by omega), eat_w h1 h2 (Int.le_refl _) hq hw hc]
  by_cases g : c / 2 ≤ q - 0
  · rw [if_pos g, eat_w h1 h2 (by omega) (by omega) hw (by omega)]
    congr 3
    split <;> split <;> omega
  · rw [if_neg g, eat_w h1 h2 (by omega) (by omega) hw (by omega), if_neg (by omega), if_neg (by omega)]
end Go.Proofs.Ytfdikbbojddbmaa
