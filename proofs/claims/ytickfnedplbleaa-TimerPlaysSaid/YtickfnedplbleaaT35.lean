/- The document's Place, Due and Same, on slices of its items that somebody told. -/
import Derived.Test.YtickfnedplbleaaT26
namespace Go.Proofs.Ytickfnedplbleaa
open Go.RowKit
attribute [local go_sem] cell_over frozen_over lt_over le_over ne_over over_ne cell_set_same softAt softUpon lightUpon heavyUpon cell_kept frozen_kept

/-- A slice of the document's items that reads as m. -/
def RSl (w : World) (v : Value) (m : List It) : Prop :=
  ∃ a c, v = .slice a m.length c ∧ m.length ≤ c ∧ c ≤ maxLen ∧ (a = none → c = 0) ∧ ∀ i x, m[i]? = some x → ∃ g o, a = some ⟨g, o, none⟩ ∧ g < w.heap.size ∧ w.cell? ⟨g, o + i * 2, none⟩ = some (.int .i64 x.1) ∧ w.cell? ⟨g, o + i * 2 + 1, none⟩ = some (.int .i64 x.2)
theorem RSl.grow {w w' : World} {v : Value} {m : List It} (h : RSl w v m) (hb : Below w.heap.size w w') : RSl w' v m := by
  obtain ⟨a, c, h1, h2, h3, h5, h4⟩ := h
  refine ⟨a, c, h1, h2, h3, h5, fun i x hx => ?_⟩
  obtain ⟨g, o, e, hg, c1, c2⟩ := h4 i x hx
  exact ⟨g, o, e, Nat.lt_of_lt_of_le hg hb.size, cell_below hb c1, cell_below hb c2⟩
theorem RItems.rsl {w : World} {B : Nat} {v : Value} {m : List It} (h : RItems w B v m) : RSl w v m := by
  rcases h.2 with ⟨rfl, h0⟩ | ⟨g, cap, cur, rfl, hg, hh, hn, hc, _⟩
  · obtain rfl : m = [] := List.eq_nil_of_length_eq_zero h0
    exact ⟨none, 0, rfl, Nat.le_refl _, Nat.zero_le _, fun _ => rfl, fun i x hx => by simp at hx⟩
  · exact ⟨some ⟨g, 0, none⟩, cap, rfl, hn, hc, (fun e => by cases e), fun i x hx => ⟨g, 0, rfl, blk_lt hh, by rw [Nat.zero_add]; exact (row_cells2 h rfl hx).1, by rw [Nat.zero_add]; exact (row_cells2 h rfl hx).2⟩⟩

set_option maxHeartbeats 2000000 in
theorem place_in {w : World} {v : Value} {m : List It} (h : RSl w v m) (hlen : m.length ≤ 64) (i : Nat) (x : It) (hi : m[i]? = some x) (hf : ∀ j y, j < i → m[j]? = some y → y.2 ≠ x.2) :
    Calls Try.prog 19 #[v, .int .i64 x.2] w fun e w' => e = .returned (.int .i64 (i : Nat)) ∧ Below w.heap.size w w' := by
  have HH := Lib.hid h
  obtain ⟨a, c, rfl, _⟩ := h
  have hil := (List.getElem?_eq_some_iff.1 hi).1
  have HI := Lib.hid hi
  have HF := Lib.hid hf
  clear hi hf
  go_enter Try.func19, Try.ntmps19
  go_wp2
  go_loopw [5] (fun s wr => ∃ k : Nat, k ≤ i ∧ s = .int .i64 (k : Int) ∧ Below w.heap.size w wr) (fun s _ => m.length - (intOf s).toNat)
  case atStart => exact ⟨0, Nat.zero_le _, rfl, Below.refl _ _⟩
  case round =>
    obtain ⟨k, hk, rfl, hB⟩ := hrel
    have i0 : (0 : Int) ≤ (k : Int) := by omega
    have i1 : (k : Int) < m.length := by omega
    have i2 : (m.length : Int) ≤ 64 := by omega
    obtain ⟨y, hy⟩ : ∃ y, m[k]? = some y := ⟨_, List.getElem?_eq_getElem (by omega)⟩
    obtain ⟨a', c', e, _, _, _, hc⟩ := HH.out.grow hB
    cases e
    obtain ⟨g, o, rfl, hg, c1, c2⟩ := hc k y hy
    by_cases hki : k = i
    · subst hki
      have : x = y := by have := HI.out; rw [hy] at this; cases this; rfl
      subst this
      have hq : (x.2 == x.2) = true := by simp
      clear hc hy
      go_wp2
      go_returns
      exact ⟨rfl, hB⟩
    · have hne := HF.out k y (by omega) hy
      have hq : (y.2 == x.2) = false := by simpa using hne
      clear hc hy
      go_wp2
      go_roundw
      case rel => exact ⟨k + 1, by omega, by go_num, hB⟩
      case measure => simp [intOf]; omega
set_option maxHeartbeats 2000000 in
theorem place_out {w : World} {v : Value} {m : List It} (h : RSl w v m) (hlen : m.length ≤ 64) (id : Int) (hf : ∀ y ∈ m, y.2 ≠ id) :
    Calls Try.prog 19 #[v, .int .i64 id] w fun e w' => e = .returned (.int .i64 (-1)) ∧ Below w.heap.size w w' := by
  have HH := Lib.hid h
  obtain ⟨a, c, rfl, _⟩ := h
  have HF := Lib.hid hf
  clear hf
  go_enter Try.func19, Try.ntmps19
  go_wp2
  go_loopw [5] (fun s wr => ∃ k : Nat, k ≤ m.length ∧ s = .int .i64 (k : Int) ∧ Below w.heap.size w wr) (fun s _ => m.length - (intOf s).toNat)
  case atStart => exact ⟨0, Nat.zero_le _, rfl, Below.refl _ _⟩
  case round =>
    obtain ⟨k, hk, rfl, hB⟩ := hrel
    by_cases hlt : k < m.length
    · have i0 : (0 : Int) ≤ (k : Int) := by omega
      have i1 : (k : Int) < m.length := by omega
      have i2 : (m.length : Int) ≤ 64 := by omega
      obtain ⟨y, hy⟩ : ∃ y, m[k]? = some y := ⟨_, List.getElem?_eq_getElem (by omega)⟩
      obtain ⟨a', c', e, _, _, _, hc⟩ := HH.out.grow hB
      cases e
      obtain ⟨g, o, rfl, hg, c1, c2⟩ := hc k y hy
      have hne := HF.out y (List.mem_of_getElem? hy)
      have hq : (y.2 == id) = false := by simpa using hne
      clear hc hy
      go_wp2
      go_roundw
      case rel => exact ⟨k + 1, by omega, by go_num, hB⟩
      case measure => simp [intOf]; omega
    · have i1 : ¬ (k : Int) < m.length := by omega
      go_wp2
      go_returns
      exact ⟨rfl, hB⟩
set_option maxHeartbeats 2000000 in
theorem same_rsl {w : World} {v v' : Value} {l : List It} (h : RSl w v l) (h' : RSl w v' l) (hlen : l.length ≤ 64) : Calls Try.prog 13 #[v, v'] w fun e w' => e = .returned (.bool true) ∧ Below w.heap.size w w' := by
  have HH := Lib.hid h
  have HH' := Lib.hid h'
  obtain ⟨a, c, rfl, _⟩ := h
  obtain ⟨a', c', rfl, _⟩ := h'
  go_enter Try.func13, Try.ntmps13
  go_wp2
  go_loopw [5] (fun i wr => ∃ k : Nat, k ≤ l.length ∧ i = .int .i64 (k : Int) ∧ Below w.heap.size w wr) (fun i _ => l.length - (intOf i).toNat)
  case atStart => exact ⟨0, Nat.zero_le _, rfl, Below.refl _ _⟩
  case round =>
    obtain ⟨k, hk, rfl, hB⟩ := hrel
    by_cases hlt : k < l.length
    · obtain ⟨x, hx⟩ : ∃ x, l[k]? = some x := ⟨_, List.getElem?_eq_getElem hlt⟩
      obtain ⟨_, _, e, _, _, _, hc⟩ := HH.out.grow hB
      cases e
      obtain ⟨_, _, e, _, _, _, hc'⟩ := HH'.out.grow hB
      cases e
      obtain ⟨g, o, rfl, hg, c1, c2⟩ := hc k x hx
      obtain ⟨g', o', rfl, hg', c3, c4⟩ := hc' k x hx
      have i0' : (0 : Int) ≤ (k : Int) := by omega
      have i1 : (k : Int) < l.length := by omega
      have i2 : (l.length : Int) ≤ 64 := by omega
      clear hx hc hc'
      go_wp2
      go_region
      all_goals
        go_wp2
        go_roundw
        case rel => exact ⟨k + 1, by omega, by go_num, hB.drew⟩
        case measure => simp [intOf]; omega
    · obtain rfl : k = l.length := by omega
      go_wp2
      go_returns
      exact ⟨rfl, hB⟩

/-- What the document's Due tells. -/
def DueR (w : World) (v : Value) (m : List It) (k : Nat) (e : Ending) (w' : World) : Prop :=
  ∃ v1 v2, e = .returned (.tuple #[v1, v2]) ∧ Below w.heap.size w w' ∧ RSl w' v1 (m.drop k) ∧ RSl w' v2 (m.take k) ∧ (∀ g, v1.ownBlock = some g → v.ownBlock = some g) ∧ ∀ g, v2.ownBlock = some g → v.ownBlock = some g
theorem rsl_drop {w : World} {a : Option Addr} {m : List It} {c k : Nat} (h : RSl w (.slice a m.length c) m) (hk : k ≤ m.length) : RSl w (.slice (if c = k then a else a.map (·.add (k * 2))) (m.length - k) (c - k)) (m.drop k) := by
  obtain ⟨_, _, e, h1, h2, h4, h3⟩ := h
  cases e
  refine ⟨_, _, by rw [List.length_drop], by rw [List.length_drop]; omega, by omega, fun e => ?_, fun i x hx => ?_⟩
  · cases a with
    | none => have := h4 rfl; omega
    | some y => split at e <;> simp at e
  rw [List.getElem?_drop] at hx
  have hl := (List.getElem?_eq_some_iff.1 hx).1
  obtain ⟨g, o, rfl, hg, c1, c2⟩ := h3 _ _ hx
  refine ⟨g, o + k * 2, ?_, hg, ?_, ?_⟩
  · rw [if_neg (by omega)]
    have e : (⟨g, o, none⟩ : Addr).add (k * 2) = ⟨g, o + k * 2, none⟩ := by unfold Addr.add; split <;> simp_all
    simp [e]
  · rw [show o + k * 2 + i * 2 = o + (k + i) * 2 by omega]; exact c1
  · rw [show o + k * 2 + i * 2 + 1 = o + (k + i) * 2 + 1 by omega]; exact c2
theorem rsl_take {w : World} {a : Option Addr} {m : List It} {c k : Nat} (h : RSl w (.slice a m.length c) m) (hk : k ≤ m.length) : RSl w (.slice a k c) (m.take k) := by
  obtain ⟨_, _, e, h1, h2, h4, h3⟩ := h
  cases e
  have hl : (m.take k).length = k := by rw [List.length_take]; omega
  refine ⟨_, _, by rw [hl], by rw [hl]; omega, h2, h4, fun i x hx => ?_⟩
  have hik : i < k := by have := (List.getElem?_eq_some_iff.1 hx).1; omega
  rw [List.getElem?_take_of_lt hik] at hx
  exact h3 _ _ hx
theorem rsl_drop_some {w : World} {g o : Nat} {m : List It} {c k : Nat} (h : RSl w (.slice (some ⟨g, o, none⟩) m.length c) m) (hk : k < m.length) : RSl w (.slice (some ⟨g, o + k * 2, none⟩) (m.length - k) (c - k)) (m.drop k) := by
  have hc : k < c := by
    obtain ⟨_, _, e, h1, _⟩ := h
    cases e
    omega
  have := rsl_drop h (Nat.le_of_lt hk)
  rw [if_neg (by omega)] at this
  have e : (⟨g, o, none⟩ : Addr).add (k * 2) = ⟨g, o + k * 2, none⟩ := by unfold Addr.add; split <;> simp_all
  simpa [e] using this
set_option maxHeartbeats 2000000 in
theorem rdue_any {w : World} {v : Value} {m : List It} (h : RSl w v m) (hlen : m.length ≤ 64) (now : Int) (k : Nat) (hk : k ≤ m.length) (h1 : ∀ j y, j < k → m[j]? = some y → y.1 ≤ now) (h2 : ∀ y, m[k]? = some y → now < y.1) :
    Calls Try.prog 12 #[v, .int .i64 now] w (DueR w v m k) := by
  have HH := Lib.hid h
  obtain ⟨a, c, rfl, hc1, hc2, hc3, _⟩ := h
  have H1 := Lib.hid h1
  have H2 := Lib.hid h2
  clear h1 h2
  go_enter Try.func12, Try.ntmps12
  go_wp2
  go_loopw [6] (fun s wr => ∃ j : Nat, j ≤ k ∧ s = .int .i64 (j : Int) ∧ Below w.heap.size w wr) (fun s _ => m.length - (intOf s).toNat)
  case atStart => exact ⟨0, Nat.zero_le _, rfl, Below.refl _ _⟩
  case round =>
    obtain ⟨j, hj, rfl, hB⟩ := hrel
    have i0 : (0 : Int) ≤ (j : Int) := by omega
    have i2 : (m.length : Int) ≤ 64 := by omega
    by_cases hlt : j < m.length
    · have i1 : (j : Int) < m.length := by omega
      obtain ⟨y, hy⟩ : ∃ y, m[j]? = some y := ⟨_, List.getElem?_eq_getElem hlt⟩
      obtain ⟨a', c', e, _, _, _, hc⟩ := HH.out.grow hB
      cases e
      obtain ⟨g, o, rfl, hg, c1, c2⟩ := hc j y hy
      by_cases hjk : j < k
      · have h3 := H1.out j y hjk hy
        clear hc hy
        go_wp2
        go_roundw
        case rel => exact ⟨j + 1, by omega, by go_num, hB⟩
        case measure => simp [intOf]; omega
      · obtain rfl : j = k := by omega
        have h3 : ¬ y.1 ≤ now := by have := H2.out y hy; omega
        clear hc hy
        have q0 : (j : Int) ≤ m.length := by omega
        have q1 : (m.length : Int) ≤ c := by omega
        go_wp2
        go_region
        all_goals
          go_wp2
          go_returns
          exact ⟨_, _, rfl, btd hB, (rsl_drop_some (HH.out.grow hB) (by omega)).grow (btd (Below.refl _ _)), (rsl_take (HH.out.grow hB) (by omega)).grow (btd (Below.refl _ _)), fun g h => h, fun g h => h⟩
    · obtain rfl : j = m.length := by omega
      obtain rfl : k = m.length := by omega
      have q1 : (m.length : Int) ≤ c := by omega
      have HK := HH.out.grow hB
      have T := (rsl_take HK (Nat.le_refl _)).grow (btd (Below.refl _ _))
      have D : ∀ a' c', c' ≤ maxLen → (a' = none → c' = 0) → RSl wr.drew (.slice a' 0 c') (m.drop m.length) := fun a' c' hc he => by
        rw [List.drop_length]
        exact ⟨a', c', rfl, Nat.zero_le _, hc, he, fun i x hx => by simp at hx⟩
      have HT := Lib.hid T
      have HD := Lib.hid D
      clear T D HK
      go_wp2
      go_region
      all_goals
        go_wp2
        all_goals go_returns
        · have hce : c = m.length := by assumption
          have hT' := HT.out
          rw [hce] at hT'
          refine ⟨_, _, rfl, btd hB, HD.out _ _ (Nat.zero_le _) (fun _ => rfl), hT', fun g h => ?_, fun g h => h⟩
          cases a with
          | none => exact h
          | some x => exact h
        · refine ⟨_, _, rfl, btd hB, HD.out _ _ (by omega) (fun e => by cases a with
            | none => have := hc3 rfl; omega
            | some y => simp at e), HT.out, fun g h => ?_, fun g h => h⟩
          cases a with
          | none => exact h
          | some x =>
            have e : (x.add (m.length * 2)).block = x.block := by unfold Addr.add; split <;> rfl
            rw [← h]
            show some x.block = some (x.add (m.length * 2)).block
            rw [e]
end Go.Proofs.Ytickfnedplbleaa
