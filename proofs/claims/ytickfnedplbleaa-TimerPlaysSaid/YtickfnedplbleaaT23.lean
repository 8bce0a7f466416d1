/- awake: the law's own check of a queue, which answers true. -/
import Derived.Test.YtickfnedplbleaaT21
import Derived.Test.YtickfnedplbleaaT22
namespace Go.Proofs.Ytickfnedplbleaa
open Go.RowKit
attribute [local go_sem] cell_over frozen_over lt_over le_over ne_over over_ne cell_set_same softAt softUpon lightUpon heavyUpon cell_kept frozen_kept

theorem good_small (x : It) (h : 0 ≤ x.1 ∧ x.1 ≤ 1000 ∧ 0 ≤ x.2 ∧ x.2 ≤ 1000) : Good x := by unfold Good; omega
theorem aset1 {w0 w : World} {pq pm : Nat} (h : Hand w0 w pq pm [] []) : Calls Try.prog 15 #[.pointer (some ⟨pq, 0, none⟩), .int .i64 7, .int .i64 5] w (HandIs w0 pq pm [] (.int .i64 0) fun l' => l'.Perm [(5, 7)]) :=
  hand_set_new h (5, 7) (good_small _ (by decide)) (fun z hz => by simp at hz) (by simp)
theorem aset2 {w0 w : World} {pq pm : Nat} {l : List It} (h : Hand w0 w pq pm l []) (hl : l.Perm [(5, 7)]) : Calls Try.prog 15 #[.pointer (some ⟨pq, 0, none⟩), .int .i64 3, .int .i64 5] w (HandIs w0 pq pm [] (.int .i64 0) fun l' => l'.Perm [(5, 7), (5, 3)]) :=
  (hand_set_new h (5, 3) (good_small _ (by decide)) (fun z hz => by have := hl.mem_iff.1 hz; simp at this; subst this; decide) (by rw [hl.length_eq]; decide)).mono fun _ _ ⟨e, l', h1, h2⟩ => ⟨e, l', h1, h2.trans (hl.append_right [(5, 3)])⟩
theorem aset3 {w0 w : World} {pq pm : Nat} {l : List It} (h : Hand w0 w pq pm l []) (hl : l.Perm [(5, 7), (5, 3)]) : Calls Try.prog 15 #[.pointer (some ⟨pq, 0, none⟩), .int .i64 1, .int .i64 9] w (HandIs w0 pq pm [] (.int .i64 0) fun l' => l'.Perm [(5, 7), (5, 3), (9, 1)]) :=
  (hand_set_new h (9, 1) (good_small _ (by decide)) (fun z hz => by have := hl.mem_iff.1 hz; simp at this; rcases this with rfl | rfl <;> decide) (by rw [hl.length_eq]; decide)).mono fun _ _ ⟨e, l', h1, h2⟩ => ⟨e, l', h1, h2.trans (hl.append_right [(9, 1)])⟩
theorem anext {w0 w : World} {pq pm : Nat} {l : List It} (h : Hand w0 w pq pm l []) (hl : l.Perm [(5, 7), (5, 3), (9, 1)]) : Calls Try.prog 17 #[.pointer (some ⟨pq, 0, none⟩)] w fun e w' => e = .returned (.tuple #[.agg #[.int .i64 5, .int .i64 3], .bool true]) ∧ Below w.heap.size w w' := by
  obtain ⟨v, hv, _⟩ := h
  refine next_some hv (5, 3) (first_of_min hv.2 (hl.mem_iff.2 (by simp)) fun z hz hne => ?_)
  have := hl.mem_iff.1 hz
  simp at this
  rcases this with rfl | rfl | rfl
  · decide
  · exact absurd rfl hne
  · decide
theorem alen {w0 w : World} {pq pm : Nat} {l : List It} {rows : List (Value × List It)} (h : Hand w0 w pq pm l rows) (hl : l.Perm [(5, 7), (5, 3), (9, 1)]) : Calls Try.prog 20 #[.pointer (some ⟨pq, 0, none⟩)] w fun e w' => e = .returned (.int .i64 3) ∧ Below w.heap.size w w' := by
  obtain ⟨v, hv, _⟩ := h
  have := qlen_any hv
  rw [hl.length_eq] at this
  exact this
theorem adue {w0 w : World} {pq pm : Nat} {l : List It} {rows : List (Value × List It)} (h : Hand w0 w pq pm l rows) (hl : l.Perm [(5, 7), (5, 3), (9, 1)]) : Calls Try.prog 11 #[.pointer (some ⟨pq, 0, none⟩), .int .i64 5] w fun e w' => ∃ o, e = .returned o ∧ Hand w0 w' pq pm [(9, 1)] ((o, [(5, 3), (5, 7)]) :: rows) :=
  (hand_due h 5).mono fun _ _ ⟨o, out, l', e, h1, h2, h3, h4, h5⟩ => by
    obtain ⟨p1, p2⟩ := due_parts (h2.trans hl) h4 h5
    have e1 : out = [(5, 3), (5, 7)] := sorted_eq h3 (by decide) (p1.trans (by decide))
    have e2 : l' = [(9, 1)] := List.perm_singleton.1 (p2.trans (by decide))
    subst e1
    subst e2
    exact ⟨o, e, h1⟩
end Go.Proofs.Ytickfnedplbleaa
