/- awake: the law's own check of a queue, which answers true: the walk. -/
import Derived.Test.YtickfnedplbleaaT23
namespace Go.Proofs.Ytickfnedplbleaa
open Go.RowKit
attribute [local go_sem] cell_over frozen_over lt_over le_over ne_over over_ne cell_set_same softAt softUpon lightUpon heavyUpon cell_kept frozen_kept

theorem awhen {w0 w : World} {pq pm : Nat} {rows : List (Value × List It)} (h : Hand w0 w pq pm [(9, 1)] rows) : Calls Try.prog 18 #[.pointer (some ⟨pq, 0, none⟩), .int .i64 1] w fun e w' => e = .returned (.tuple #[.int .i64 9, .bool true]) ∧ Below w.heap.size w w' := by
  obtain ⟨v, hv, _⟩ := h
  exact when_in hv 0 (9, 1) rfl
theorem astop1 {w0 w : World} {pq pm : Nat} {rows : List (Value × List It)} (h : Hand w0 w pq pm [(9, 1)] rows) : Calls Try.prog 9 #[.pointer (some ⟨pq, 0, none⟩), .int .i64 1] w fun e w' => e = .returned (.bool true) ∧ Hand w0 w' pq pm [] rows :=
  (hand_stop_in h 0 (9, 1) rfl).mono fun _ _ ⟨e, l', h1, h2⟩ => by
    have : l' = [] := List.perm_nil.1 ((List.perm_cons (9, 1)).1 h2)
    subst this
    exact ⟨e, h1⟩
theorem astop2 {w0 w : World} {pq pm : Nat} {rows : List (Value × List It)} (h : Hand w0 w pq pm [] rows) : Calls Try.prog 9 #[.pointer (some ⟨pq, 0, none⟩), .int .i64 1] w fun e w' => e = .returned (.bool false) ∧ Below w.heap.size w w' := by
  obtain ⟨v, hv, _⟩ := h
  exact stop_out hv 1 ⟨by decide, by decide⟩ (fun z hz => by simp at hz)
theorem alist {w0 w : World} {pq pm : Nat} {rows : List (Value × List It)} (h : Hand w0 w pq pm [] rows) : Calls Try.prog 21 #[.pointer (some ⟨pq, 0, none⟩)] w fun e w' => (∃ a c, e = .returned (.slice a 0 c)) ∧ Below w.heap.size w w' := by
  obtain ⟨v, hv, _⟩ := h
  exact list_none hv
theorem aback {w0 w : World} {pq pm : Nat} {o : Value} {l l2 : List It} {rows : List (Value × List It)} (h : Hand w0 w pq pm l2 rows) (hm : (o, l) ∈ rows) (hl : l.length ≤ 64) : Calls Try.prog 14 #[o] w (BackIs w l) := by
  obtain ⟨v, hv, _, hr⟩ := h
  exact back_any (hr (o, l) hm).1 hl

theorem hand_row {w0 w : World} {pq pm : Nat} {l : List It} {rows : List (Value × List It)} (h : Hand w0 w pq pm l rows) {r : Value × List It} (hm : r ∈ rows) : Items w w0.heap.size r.1 r.2 := by
  obtain ⟨v, _, _, hr⟩ := h
  exact (hr r hm).1
theorem hand_below {w0 w : World} {pq pm : Nat} {l : List It} {rows : List (Value × List It)} (h : Hand w0 w pq pm l rows) : Below w0.heap.size w0 w := by
  obtain ⟨v, _, hb, _⟩ := h
  exact hb
theorem asame {w : World} {B : Nat} {v : Value} (h : RItems w B v [(5, 3), (5, 7)]) : Calls Try.prog 13 #[v, .slice (some ⟨w.heap.size, 0, none⟩) 2 2] (w.alloc (.cells #[.int .i64 5, .int .i64 3, .int .i64 5, .int .i64 7] 49)) fun e w' => e = .returned (.bool true) ∧ Below (w.alloc (.cells #[.int .i64 5, .int .i64 3, .int .i64 5, .int .i64 7] 49)).heap.size (w.alloc (.cells #[.int .i64 5, .int .i64 3, .int .i64 5, .int .i64 7] 49)) w' :=
  same_eq (l := [(5, 3), (5, 7)]) (own_below h (bta (Below.refl _ _) _)) (World.ownsRow_lit (base := w.heap.size) w _ 2 (Nat.le_refl _) (by unfold maxLen; omega) rfl) (by decide)

set_option maxRecDepth 100000 in
set_option maxHeartbeats 8000000 in
theorem awake_any (w : World) : Calls Try.prog 7 #[] w fun e w' => e = .returned (.bool true) ∧ Below w.heap.size w w' := by
  go_enter Try.func7, Try.ntmps7
  go_wp2_with (first | ((with_reducible refine (hand_new _).mono ?_); refine unhalt ?_))
  unfold Halted
  rintro e w1 ⟨pq, pm, rfl, h1⟩
  have A1 := Lib.hid (aset1 h1)
  clear h1
  dsimp only
  go_wp2_with (first | ((with_reducible refine (A1.out).mono ?_); refine unhalt ?_))
  unfold Halted
  rintro e w2 ⟨rfl, l2, h2, p2⟩
  have A2 := Lib.hid (aset2 h2 p2)
  clear h2 A1
  dsimp only
  go_wp2_with (first | ((with_reducible refine (A2.out).mono ?_); refine unhalt ?_))
  unfold Halted
  rintro e w3 ⟨rfl, l3, h3, p3⟩
  have A3 := Lib.hid (aset3 h3 p3)
  clear h3 A2
  dsimp only
  go_wp2_with (first | ((with_reducible refine (A3.out).mono ?_); refine unhalt ?_))
  unfold Halted
  rintro e w4 ⟨rfl, l4, h4, p4⟩
  have A4 := Lib.hid (set_range (w := w4) (pq := pq) 4 (-1) (by decide))
  have H4 := Lib.hid h4
  clear h4 A3 p2 p3
  dsimp only
  go_wp2_with (first
    | ((with_reducible refine (A4.out).mono ?_); rintro e w5 ⟨rfl, hb⟩; have H5 := Lib.hid (H4.out.grow hb); have A5 := Lib.hid (anext H5.out p4); clear hb)
    | ((with_reducible refine (A5.out).mono ?_); rintro e w6 ⟨rfl, hb⟩; have H6 := Lib.hid (hand_box (H5.out.grow hb) (5, 3)); have A6 := Lib.hid (alen H6.out p4); clear hb)
    | ((with_reducible refine (A6.out).mono ?_); rintro e w7 ⟨rfl, hb⟩; have H7 := Lib.hid (H6.out.grow hb); have A7 := Lib.hid (adue H7.out p4); clear hb)
    | ((with_reducible refine (A7.out).mono ?_); refine unhalt ?_))
  unfold Halted
  rintro e w8 ⟨o, rfl, h8⟩
  have A8 := Lib.hid (awhen h8)
  have H8 := Lib.hid h8
  clear h8
  generalize hpt : w6.heap.size = pt at *
  have HPT := Lib.hid hpt
  clear hpt
  dsimp only
  go_wp2_with (first
    | ((with_reducible refine (A8.out).mono ?_); rintro e w9 ⟨rfl, hb⟩; have H9 := Lib.hid (H8.out.grow hb); have A9 := Lib.hid (astop1 H9.out); clear hb)
    | ((with_reducible refine (A9.out).mono ?_); rintro e w10 ⟨rfl, h10⟩; have H10 := Lib.hid h10; have A10 := Lib.hid (astop2 H10.out); clear h10)
    | ((with_reducible refine (A10.out).mono ?_); refine unhalt ?_))
  unfold Halted
  rintro e w11 ⟨rfl, hb⟩
  have H11 := Lib.hid (H10.out.grow hb)
  clear hb
  have hit := hand_row H11.out (r := (.slice (some ⟨pt, 0, none⟩) 1 1, [(5, 3)])) (by simp)
  obtain ⟨c1, c2⟩ := row_cells2 (i := 0) (x := (5, 3)) hit rfl rfl
  have A11 := Lib.hid (aback (l := [(5, 3), (5, 7)]) H11.out (o := o) (by simp) (by decide))
  clear hit
  dsimp only at c1 c2 ⊢
  go_wp2_with (first | ((with_reducible refine (A11.out).mono ?_); refine unhalt ?_))
  unfold Halted
  rintro e w12 ⟨v, rfl, hb, hr⟩
  have H12 := Lib.hid ((H11.out.grow hb).grow (bta (Below.refl _ _) (.cells #[.int .i64 5, .int .i64 3, .int .i64 5, .int .i64 7] 49)))
  have A12 := Lib.hid (asame hr)
  clear hb hr
  dsimp only
  go_wp2_with (first
    | ((with_reducible refine (A12.out).mono ?_); rintro e w13 ⟨rfl, hb⟩; have H13 := Lib.hid (H12.out.grow hb); have A13 := Lib.hid (alist H13.out); clear hb)
    | ((with_reducible refine (A13.out).mono ?_); rintro e w14 ⟨⟨a, c, rfl⟩, hb⟩; have H14 := Lib.hid (H13.out.grow hb); clear hb))
  go_returns
  exact ⟨rfl, hand_below H14.out⟩
end Go.Proofs.Ytickfnedplbleaa
