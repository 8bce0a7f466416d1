/- What CreditAgree leans on: one deed by the plain functions, and the end. -/
import Derived.Test.YtfdikbbojddbmaaC5
namespace Go.Proofs.Ytfdikbbojddbmaa
open Go.RowKit

/-- What the two ledgers are between deeds. -/
structure Inv (W L U R : Int) (k : Nat) : Prop where
  w1 : 1 ≤ W
  w2 : W ≤ 256
  r0 : 0 ≤ R
  ru : R ≤ U
  ul : U ≤ L
  lr : L ≤ R + W
  uk : U ≤ 255 * (k : Int)
  k80 : k ≤ 81

theorem Inv.ok {W L U R : Int} {k : Nat} (h : Inv W L U R k) : okL W L U R ∧ okL W L U 0 := by
  obtain ⟨_, _, _, _, _, _, _, _⟩ := h
  unfold okL
  omega

/-- What one deed gives. -/
structure Deed1 (W L U R N E n V R' L' G : Int) (k : Nat) : Prop where
  n0 : 0 ≤ n
  n1 : n ≤ L - U
  v : V = U + n
  free : freeV W L U 0 = L - U
  spend : spendV (W, L, U, 0) n = ((W, L, V, 0), true)
  reach : reachV (W, L, U, R) V = ((W, L, V, R), n, true)
  eat : eatV (W, L, V, R) E = (W, L, V, R')
  grant : grantV (W, L, V, R') = ((W, L', V, R'), G)
  ways : (G = 0 ∧ L' = L) ∨ (1 ≤ G ∧ L' = L + G ∧ givenV (W, L, V, 0) G = ((W, L', V, 0), true))
  inv : Inv W L' V R' (k + 1)

theorem deed_one {W L U R N E : Int} {k : Nat} (h : Inv W L U R k) (hk : k ≤ 80) (hN : 0 ≤ N) (hN2 : N ≤ 255) (hE : 0 ≤ E) (n : Int) (hn : n = if L - U < N then L - U else N) :
    ∃ R' L' G, Deed1 W L U R N E n (U + n) R' L' G k := by
  have hok := h.ok
  obtain ⟨w1, w2, r0, ru, ul, lr, uk, k80⟩ := h
  have n0 : 0 ≤ n := by rw [hn]; split <;> omega
  have n1 : n ≤ L - U := by rw [hn]; split <;> omega
  have n2 : n ≤ 255 := by rw [hn]; split <;> omega
  obtain ⟨R', hR⟩ : ∃ R', R' = if 1 ≤ E then (if E ≤ U + n - R then R + E else U + n) else R := ⟨_, rfl⟩
  have r1 : R ≤ R' := by rw [hR]; split <;> (try split) <;> omega
  have r2 : R' ≤ U + n := by rw [hR]; split <;> (try split) <;> omega
  have hok2 : okL W L (U + n) R := by unfold okL at *; omega
  have hok3 : okL W L (U + n) R' := by unfold okL at *; omega
  have hok4 : okL W L (U + n) 0 := by unfold okL at *; omega
  have e1 : freeV W L U 0 = L - U := if_pos hok.2
  have e2 : spendV (W, L, U, 0) n = ((W, L, U + n, 0), true) := if_pos ⟨hok.2, n0, n1⟩
  have e3 : reachV (W, L, U, R) (U + n) = ((W, L, U + n, R), n, true) := by
    unfold reachV
    rw [if_pos ⟨hok.1, by omega, by dsimp only; omega⟩]
    dsimp only
    by_cases h : U + n ≤ U
    · obtain rfl : n = 0 := by omega
      simp
    · rw [if_neg h, show U + n - U = n by omega]
  have e4 : eatV (W, L, U + n, R) E = (W, L, U + n, R') := by
    unfold eatV
    by_cases h : 1 ≤ E
    · rw [if_pos ⟨hok2, h⟩, hR, if_pos h]
      dsimp only
      split <;> rfl
    · rw [if_neg (fun e => h e.2), hR, if_neg h]
  have t : topV (W, L, U + n, R') = R' + W := if_pos (by dsimp only; omega)
  by_cases hg : 1 ≤ R' + W - L ∧ W / 2 ≤ R' + W - L
  · have e5 : grantV (W, L, U + n, R') = ((W, R' + W, U + n, R'), R' + W - L) := by
      unfold grantV
      rw [t, if_pos ⟨hok3, hg⟩]
    exact ⟨R', R' + W, R' + W - L, n0, n1, rfl, e1, e2, e3, e4, e5, .inr ⟨hg.1, by omega, by
      unfold givenV
      rw [if_pos ⟨hok4, hg.1, by dsimp only; omega⟩, show L + (R' + W - L) = R' + W by omega]⟩, ⟨w1, w2, by omega, r2, by omega, Int.le_refl _, by omega, by omega⟩⟩
  · have e5 : grantV (W, L, U + n, R') = ((W, L, U + n, R'), 0) := by
      unfold grantV
      rw [t, if_neg (fun e => hg e.2)]
    exact ⟨R', L, 0, n0, n1, rfl, e1, e2, e3, e4, e5, .inl ⟨rfl, rfl⟩, ⟨w1, w2, by omega, r2, by omega, by omega, by omega, by omega⟩⟩

/-- Who reads all lets more go. -/
theorem agree_end {W L U R : Int} {k : Nat} (h : Inv W L U R k) : eatV (W, L, U, R) U = (W, L, U, U) ∧ ∃ L' G, grantV (W, L, U, U) = ((W, L', U, U), G) ∧ 0 < freeV W L' U U := by
  have hok := h.ok.1
  obtain ⟨w1, w2, r0, ru, ul, lr, uk, k80⟩ := h
  have hok2 : okL W L U U := by unfold okL at *; omega
  refine ⟨?_, ?_⟩
  · unfold eatV
    by_cases h : 1 ≤ U
    · rw [if_pos ⟨hok, h⟩]
      dsimp only
      by_cases h2 : U ≤ U - R
      · rw [if_pos h2, show R + U = U by omega]
      · rw [if_neg h2]
    · rw [if_neg (fun e => h e.2), show R = U by omega]
  · have t : topV (W, L, U, U) = U + W := if_pos (by dsimp only; omega)
    by_cases hg : 1 ≤ U + W - L ∧ W / 2 ≤ U + W - L
    · refine ⟨U + W, U + W - L, ?_, ?_⟩
      · unfold grantV
        rw [t, if_pos ⟨hok2, hg⟩]
      · unfold freeV
        rw [if_pos (by unfold okL at *; omega)]
        omega
    · refine ⟨L, 0, ?_, ?_⟩
      · unfold grantV
        rw [t, if_neg (fun e => hg e.2)]
      · unfold freeV
        rw [if_pos hok2]
        omega
end Go.Proofs.Ytfdikbbojddbmaa
