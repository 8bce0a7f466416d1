/- Heaps as lists, in plain words: what one step up and one step down leave. No conditions beyond those that each states. -/
import Derived.Test.YtickfnedplbleaaT4
namespace Go.Proofs.Ytickfnedplbleaa

/-- The item at a place. -/
def itAt (l : List It) (i : Nat) : It := l.getD i (0, 0)
theorem itAt_some {l : List It} {i : Nat} (h : i < l.length) : l[i]? = some (itAt l i) := by simp [itAt, h]
theorem itAt_of {l : List It} {i : Nat} {x : It} (h : l[i]? = some x) : itAt l i = x := by simp [itAt, h]
/-- Two places exchanged. -/
def sw (l : List It) (i j : Nat) : List It := (l.set i (itAt l j)).set j (itAt l i)
theorem sw_len (l : List It) (i j : Nat) : (sw l i j).length = l.length := by simp [sw]
theorem sw_at {l : List It} {i j : Nat} (hi : i < l.length) (hj : j < l.length) (c : Nat) : itAt (sw l i j) c = if c = j then itAt l i else if c = i then itAt l j else itAt l c := by
  by_cases h1 : c = j
  · subst h1
    rw [if_pos rfl]
    apply itAt_of
    unfold sw
    rw [List.getElem?_set_self (by simpa using hj)]
  · rw [if_neg h1]
    by_cases h2 : c = i
    · subst h2
      rw [if_pos rfl]
      apply itAt_of
      unfold sw
      rw [List.getElem?_set_ne (fun e => h1 e.symm), List.getElem?_set_self hi]
    · rw [if_neg h2]
      unfold itAt sw
      simp only [List.getD_eq_getElem?_getD]
      rw [List.getElem?_set_ne (fun e => h1 e.symm), List.getElem?_set_ne (fun e => h2 e.symm)]
theorem sw_perm {l : List It} {i j : Nat} (hi : i < l.length) (hj : j < l.length) : (sw l i j).Perm l := swap_perm (itAt_some hi) (itAt_some hj)

/-- The first n items are a heap. -/
def HeapN (n : Nat) (l : List It) : Prop := ∀ c, 0 < c → c < n → ¬ ltI (itAt l c) (itAt l ((c - 1) / 2))
/-- .. but for the item at j, which may come ahead of the one above it. -/
def UpN (n j : Nat) (l : List It) : Prop :=
  (∀ c, 0 < c → c < n → c ≠ j → ¬ ltI (itAt l c) (itAt l ((c - 1) / 2))) ∧ (∀ c, 0 < c → c < n → (c - 1) / 2 = j → 0 < j → ¬ ltI (itAt l c) (itAt l ((j - 1) / 2)))
/-- .. but for the item at i, which may come behind those below it (and, at i0 itself, ahead of the one above it). -/
def DownN (n i0 i : Nat) (l : List It) : Prop :=
  (∀ c, 0 < c → c < n → (c - 1) / 2 ≠ i → (c ≠ i ∨ i0 < i) → ¬ ltI (itAt l c) (itAt l ((c - 1) / 2))) ∧ (∀ c, 0 < c → c < n → (c - 1) / 2 = i → 0 < i → ¬ ltI (itAt l c) (itAt l ((i - 1) / 2)))

theorem lt_asym {a b : It} (h : ltI a b) : ¬ ltI b a := by unfold ltI at *; omega
theorem lt_trans' {a b c : It} (h : ltI a b) (k : ltI b c) : ltI a c := by unfold ltI at *; omega
theorem ge_trans {a b c : It} (h : ¬ ltI a b) (k : ¬ ltI b c) : ¬ ltI a c := by unfold ltI at *; omega
theorem lt_irr (a : It) : ¬ ltI a a := by unfold ltI; omega

theorem up_end {n j : Nat} {l : List It} (h : UpN n j l) (he : j = 0 ∨ ¬ ltI (itAt l j) (itAt l ((j - 1) / 2))) : HeapN n l := by
  intro c h1 h2
  by_cases hc : c = j
  · subst hc
    rcases he with he | he
    · omega
    · exact he
  · exact h.1 c h1 h2 hc
theorem up_step {n j : Nat} {l : List It} (hn : n ≤ l.length) (hj : j < n) (h0 : 0 < j) (h : UpN n j l) (hl : ltI (itAt l j) (itAt l ((j - 1) / 2))) : UpN n ((j - 1) / 2) (sw l ((j - 1) / 2) j) := by
  obtain ⟨i, hi⟩ : ∃ i, i = (j - 1) / 2 := ⟨_, rfl⟩
  rw [← hi] at hl ⊢
  have hij : i < j := by omega
  have hat := sw_at (l := l) (i := i) (j := j) (by omega) (by omega)
  refine ⟨fun c h1 h2 h3 => ?_, fun c h1 h2 h3 h4 => ?_⟩
  · rw [hat, hat]
    by_cases e1 : c = j
    · subst e1
      rw [if_pos rfl, ← hi, if_neg (by omega), if_pos rfl]
      exact lt_asym hl
    · rw [if_neg e1, if_neg h3]
      by_cases e2 : (c - 1) / 2 = j
      · rw [if_pos e2]
        have := h.2 c h1 h2 e2 h0
        rwa [← hi] at this
      · rw [if_neg e2]
        by_cases e3 : (c - 1) / 2 = i
        · rw [if_pos e3]
          have := h.1 c h1 h2 e1
          rw [e3] at this
          exact fun hc => this (lt_trans' hc hl)
        · rw [if_neg e3]
          exact h.1 c h1 h2 e1
  · rw [hat, hat, if_neg (show ¬ (i - 1) / 2 = j by omega), if_neg (show ¬ (i - 1) / 2 = i by omega)]
    have hp := h.1 i h4 (by omega) (by omega)
    by_cases e1 : c = j
    · rw [if_pos e1]
      exact hp
    · rw [if_neg e1, if_neg (by omega)]
      have := h.1 c h1 h2 e1
      rw [h3] at this
      exact ge_trans this hp

/-- The child that comes first. -/
def Least (n i j : Nat) (l : List It) : Prop := j < n ∧ (j = 2 * i + 1 ∨ j = 2 * i + 2) ∧ ∀ c, 0 < c → c < n → (c - 1) / 2 = i → ¬ ltI (itAt l c) (itAt l j)
theorem down_step {n i0 i j : Nat} {l : List It} (hn : n ≤ l.length) (hi0 : i0 ≤ i) (hL : Least n i j l) (h : DownN n i0 i l) (hl : ltI (itAt l j) (itAt l i)) : DownN n i0 j (sw l i j) := by
  obtain ⟨hj, hch, hmin⟩ := hL
  have hij : i < j := by omega
  have hpj : (j - 1) / 2 = i := by omega
  have hat := sw_at (l := l) (i := i) (j := j) (by omega) (by omega)
  refine ⟨fun c h1 h2 h3 h4 => ?_, fun c h1 h2 h3 h4 => ?_⟩
  · rw [hat, hat, if_neg h3]
    by_cases e1 : c = j
    · subst e1
      rw [if_pos rfl, hpj, if_pos rfl]
      exact lt_asym hl
    · rw [if_neg e1]
      by_cases e2 : (c - 1) / 2 = i
      · rw [if_neg (show ¬ c = i by omega), if_pos e2]
        exact hmin c h1 h2 e2
      · rw [if_neg e2]
        by_cases e3 : c = i
        · subst e3
          rw [if_pos rfl]
          exact h.2 j (by omega) hj hpj h1
        · rw [if_neg e3]
          exact h.1 c h1 h2 e2 (.inl e3)
  · rw [hat, hat, if_neg (show ¬ c = j by omega), if_neg (show ¬ c = i by omega), hpj, if_neg (show ¬ i = j by omega), if_pos rfl]
    have := h.1 c h1 h2 (by omega) (.inl (by omega))
    rwa [h3] at this
/-- Nothing below comes ahead. -/
def Still (n i : Nat) (l : List It) : Prop := ∀ c, 0 < c → c < n → (c - 1) / 2 = i → ¬ ltI (itAt l c) (itAt l i)
theorem still_least {n i j : Nat} {l : List It} (hL : Least n i j l) (h : ¬ ltI (itAt l j) (itAt l i)) : Still n i l := fun c h1 h2 h3 => ge_trans (hL.2.2 c h1 h2 h3) h
theorem still_none {n i : Nat} {l : List It} (h : n ≤ 2 * i + 1) : Still n i l := fun c h1 h2 h3 => by omega
theorem down_moved {n i0 i : Nat} {l : List It} (h : DownN n i0 i l) (hs : Still n i l) (hi : i0 < i) : HeapN n l := fun c h1 h2 => by
  by_cases e : (c - 1) / 2 = i
  · rw [e]
    exact hs c h1 h2 e
  · exact h.1 c h1 h2 e (.inr hi)
theorem down_unmoved {n i : Nat} {l : List It} (h : DownN n i i l) (hs : Still n i l) : UpN n i l := by
  refine ⟨fun c h1 h2 h3 => ?_, h.2⟩
  by_cases e : (c - 1) / 2 = i
  · rw [e]
    exact hs c h1 h2 e
  · exact h.1 c h1 h2 e (.inl h3)
/-- Nothing comes ahead of the first. -/
theorem heap_first {n : Nat} {l : List It} (h : HeapN n l) : ∀ c, c < n → ¬ ltI (itAt l c) (itAt l 0)
  | 0, _ => lt_irr _
  | c + 1, hc => by
    have h1 := h (c + 1) (by omega) hc
    have h2 := heap_first h ((c + 1 - 1) / 2) (by omega)
    exact ge_trans h1 h2
termination_by c => c
decreasing_by omega
theorem heap_up {n : Nat} {l : List It} (h : HeapN n l) (x : It) (hn : n = l.length) : UpN (n + 1) n (l ++ [x]) := by
  have hat : ∀ c, c < n → itAt (l ++ [x]) c = itAt l c := fun c hc => by
    unfold itAt
    simp only [List.getD_eq_getElem?_getD]
    rw [List.getElem?_append_left (by omega)]
  refine ⟨fun c h1 h2 h3 => ?_, fun c h1 h2 h3 h4 => by omega⟩
  rw [hat c (by omega), hat _ (by omega)]
  exact h c h1 (by omega)
/-- An item is put in the place of another one. -/
theorem heap_set {n i : Nat} {l l' : List It} (h : HeapN n l) (_ : i < n) (hl : ∀ c, c ≠ i → itAt l' c = itAt l c) : DownN n i i l' := by
  refine ⟨fun c h1 h2 h3 h4 => ?_, fun c h1 h2 h3 h4 => ?_⟩
  · rw [hl c (by omega), hl _ h3]
    exact h c h1 h2
  · rw [hl c (by omega), hl _ (by omega)]
    have a := h c h1 h2
    have b := h i h4 (by omega)
    rw [h3] at a
    exact ge_trans a b
theorem heap_less {n m : Nat} {l : List It} (h : HeapN n l) (hm : m ≤ n) : HeapN m l := fun c h1 h2 => h c h1 (by omega)
end Go.Proofs.Ytickfnedplbleaa
