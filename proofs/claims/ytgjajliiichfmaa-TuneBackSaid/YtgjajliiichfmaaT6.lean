/- The contract of Diff of the package tune: the pairs of the second values that differ from the first ones, in a row of its own; all memory that stood before is left as it was. -/
import Derived.Test.YtgjajliiichfmaaT5
namespace Go.Proofs.Ytgjajliiichfmaa
open Go.RowKit
attribute [local go_sem] cell_over frozen_over lt_over le_over ne_over over_ne cell_set_same softAt softUpon

theorem cell_at {w : World} {b : Nat} {a0 a1 a2 a3 : Int} {t : TypeId} (h : w.heap[b]? = some (.cells #[.int .i64 a0, .int .i64 a1, .int .i64 a2, .int .i64 a3] t (0, 0))) (k : Nat) (hk : k < 4) : w.cell? ⟨b, k, none⟩ = some (.int .i64 (at4 a0 a1 a2 a3 k)) := by
  rw [blk_cell h]
  have h : k = 0 ∨ k = 1 ∨ k = 2 ∨ k = 3 := by omega
  rcases h with rfl | rfl | rfl | rfl <;> rfl

/-- Of the first k pairs, those that differ. -/
def dl (f t : Nat → Int) : Nat → List (Int × Int)
  | 0 => []
  | k + 1 => if f k = t k then dl f t k else dl f t k ++ [((k : Int) + 1, t k)]
theorem dl_len (f t : Nat → Int) (k : Nat) : (dl f t k).length ≤ k := by
  induction k with
  | zero => exact Nat.le_refl _
  | succ k ih =>
    unfold dl
    split
    · omega
    · simp; omega
theorem pl_get (f : Nat → Int) (n k : Nat) (h : k < n) : (pl f n)[k]? = some ((k : Int) + 1, f k) := by
  induction n with
  | zero => omega
  | succ n ih =>
    unfold pl
    have hl := pl_len f n
    rcases Nat.lt_or_ge k n with hk | hk
    · rw [List.getElem?_append_left (by omega)]; exact ih hk
    · obtain rfl : k = n := by omega
      rw [List.getElem?_append_right (by omega), hl]
      simp

theorem own_lower {w : World} {base base' : Nat} {e : TypeId} {size : Nat} {v : Value} {n : Nat} {xs : List Value} (h : w.ownsRow base e size v n xs) (hb : base' ≤ base) : w.ownsRow base' e size v n xs :=
  ⟨h.1, h.2.imp id fun ⟨g, cap, cur, h1, h2, h3⟩ => ⟨g, cap, cur, h1, Nat.le_trans hb h2, h3⟩⟩

theorem pairs_open (a b c d : Int) (w : World) : Calls Try.prog 10 #[.agg #[.int .i64 a, .int .i64 b, .int .i64 c, .int .i64 d]] w fun e w' => ∃ x c', e = .returned (.slice x 4 c') ∧ Below w.heap.size w w' ∧ Prs w' x (pl (at4 a b c d) 4) := by
  refine (pairs_any a b c d w).mono ?_
  rintro e w' ⟨v, rfl, hb, ho⟩
  obtain ⟨x, c', rfl, hp⟩ := own_prs (l := pl (at4 a b c d) 4) (by rw [pl_len]; exact ho)
  exact ⟨x, c', by rw [pl_len], hb, hp⟩

theorem diff_no (a b c d a' b' c' d' : Int) (h : ¬ (okT a b c d ∧ okT a' b' c' d')) (w : World) : Calls Try.prog 6 #[.agg #[.int .i64 a, .int .i64 b, .int .i64 c, .int .i64 d], .agg #[.int .i64 a', .int .i64 b', .int .i64 c', .int .i64 d']] w fun e w' => e = .returned (.slice none 0 0) ∧ Below w.heap.size w w' := by
  by_cases h1 : okT a b c d
  · have C1 := Lib.hid (check_yes h1)
    have C2 := Lib.hid (check_no (fun h2 => h ⟨h1, h2⟩))
    clear h h1
    go_enter Try.func6, Try.ntmps6
    go_wp2_with (first
      | ((with_reducible refine (C1.out _).mono ?_); rintro e w1 ⟨rfl, hb⟩;
          have h3 := blk_grow hb (blk_new (n := w.heap.size + 1) (by simp)); have B1 := bt (bta (bta (Below.refl _ _) _) _) hb; clear hb; obtain ⟨a0, a1, a2, a3, a4, a5, a6, a7, a8⟩ := cells4 h3)
      | ((with_reducible refine (C2.out _).mono ?_); rintro e w2 ⟨rfl, hb⟩; have B2 := bt B1 hb; clear hb))
    go_returns
    exact ⟨rfl, B2⟩
  · have C1 := Lib.hid (check_no h1)
    clear h h1
    go_enter Try.func6, Try.ntmps6
    go_wp2_with (first
      | ((with_reducible refine (C1.out _).mono ?_); rintro e w1 ⟨rfl, hb⟩;
          have B1 := bt (bta (bta (Below.refl _ _) _) _) hb; clear hb))
    go_returns
    exact ⟨rfl, B1⟩

set_option maxHeartbeats 2000000 in
theorem diff_any (a b c d a' b' c' d' : Int) (h1 : okT a b c d) (h2 : okT a' b' c' d') (w : World) : Calls Try.prog 6 #[.agg #[.int .i64 a, .int .i64 b, .int .i64 c, .int .i64 d], .agg #[.int .i64 a', .int .i64 b', .int .i64 c', .int .i64 d']] w fun e w' => ∃ v, e = .returned v ∧ Below w.heap.size w w' ∧
      w'.ownsRow w.heap.size 39 2 v (dl (at4 a b c d) (at4 a' b' c' d') 4).length (prsL (dl (at4 a b c d) (at4 a' b' c' d') 4)) := by
  have C1 := Lib.hid (check_yes h1)
  have C2 := Lib.hid (check_yes h2)
  have R1 := Lib.hid (row_any a b c d)
  have P1 := Lib.hid (pairs_open a' b' c' d')
  obtain ⟨i0, hi, hz0, hz1, hz2⟩ := info_parts info39
  clear h1 h2
  generalize hf : at4 a b c d = f at *
  generalize hg : at4 a' b' c' d' = g at *
  have HF := Lib.hid hf
  clear hf hg
  go_enter Try.func6, Try.ntmps6
  go_wp2_with (first
    | ((with_reducible refine (C1.out _).mono ?_); rintro e w1 ⟨rfl, hb⟩;
        have h2 := blk_grow hb (blk_old (blk_new rfl)); have h3 := blk_grow hb (blk_new (n := w.heap.size + 1) (by simp)); have B1 := bt (bta (bta (Below.refl _ _) _) _) hb; clear hb; obtain ⟨a0, a1, a2, a3, a4, a5, a6, a7, a8⟩ := cells4 h3)
    | ((with_reducible refine (C2.out _).mono ?_); rintro e w2 ⟨rfl, hb⟩; replace h2 := blk_grow hb h2; replace h3 := blk_grow hb h3; have B2 := bt B1 hb; clear hb B1 a0 a1 a2 a3 a4 a5 a6 a7 a8; obtain ⟨a0, a1, a2, a3, a4, a5, a6, a7, a8⟩ := cells4 h2)
    | ((with_reducible refine (R1.out _).mono ?_); rintro e w3 ⟨rfl, hb⟩; replace h3 := blk_grow hb h3; have B3 := bt B2 hb; clear hb B2 h2 a0 a1 a2 a3 a4 a5 a6 a7 a8; obtain ⟨a0, a1, a2, a3, a4, a5, a6, a7, a8⟩ := cells4 h3)
    | ((with_reducible refine (P1.out _).mono ?_); refine unhalt ?_))
  unfold Halted
  rintro e w4 ⟨x, c1, rfl, hb, hp⟩
  have h5 := blk_grow hb (blk_new rfl)
  have s5 := B3.size
  have B4 := bt (bta B3 _) hb
  clear hb B3 h3 a0 a1 a2 a3 a4 a5 a6 a7 a8
  generalize w3.heap.size = p5 at *
  have HP := Lib.hid hp
  clear hp C1 C2 R1 P1
  dsimp only
  go_wp2
  go_loopw [6, 22] (fun v i wr => ∃ k : Nat, k ≤ 4 ∧ i = .int .i64 k ∧ Below w.heap.size w wr ∧ Below w4.heap.size w4 wr ∧ wr.ownsRow w4.heap.size 39 2 v (dl f g k).length (prsL (dl f g k)))
    (fun _ i _ => 4 - (intOf i).toNat)
  case atStart => exact ⟨0, Nat.zero_le _, rfl, B4, Below.refl _ _, World.ownsRow_nil _ _ _ _⟩
  case round =>
    obtain ⟨k, hk, rfl, hb, hb4, hown⟩ := hrel
    by_cases hlt : k < 4
    · have k0 : (0 : Int) ≤ (k : Int) := by omega
      have k1 : (k : Int) < 4 := by omega
      obtain ⟨bb, oo, rfl, g0, g1⟩ := HP.out k _ (pl_get g 4 k hlt)
      have q0 := cell_below hb4 g0
      have q1 := cell_below hb4 g1
      have g5 := blk_grow hb4 h5
      have q5 := cell_at g5 k hlt
      rw [HF.out] at q5
      clear g0 g1
      have l5 := blk_lt g5
      rw [← Nat.add_assoc] at q1
      have w1 : IntKind.i64.wrap ((k : Int) + 1 - 1) = k := by rw [Int.add_sub_cancel]; exact IntWalk.i64_in _ (by omega)
      have w2 : IntKind.i64.wrap (k : Int) = k := IntWalk.i64_in _ (by omega)
      go_wp2
      have h8 := blk_new (w := wr) (o := .cells #[.int .i64 ((k : Int) + 1), .int .i64 (g k)] 39) rfl
      have B5 := bta hb (.cells #[.int .i64 ((k : Int) + 1), .int .i64 (g k)] 39)
      have B6 : Below w4.heap.size w4 (wr.alloc (.cells #[.int .i64 ((k : Int) + 1), .int .i64 (g k)] 39)) := bta hb4 _
      have own5 := World.ownsRow.alloc hown (.cells #[.int .i64 ((k : Int) + 1), .int .i64 (g k)] 39)
      replace g5 := blk_old (o := .cells #[.int .i64 ((k : Int) + 1), .int .i64 (g k)] 39) g5
      generalize wr.heap.size = p8 at *
      generalize wr.alloc (.cells #[.int .i64 ((k : Int) + 1), .int .i64 (g k)] 39) = w5 at *
      clear q0 q1 q5 l5 hb hb4 hown
      have q5 := cell_at g5 k hlt
      rw [HF.out] at q5
      have l5 := blk_lt g5
      have r0 := blk_cell h8 0
      have r1 := blk_cell h8 1
      have l8 := blk_lt h8
      simp only [List.getElem?_toArray, List.getElem?_cons_zero, List.getElem?_cons_succ] at r0 r1
      by_cases he : f k = g k
      · have HE : dl f g (k + 1) = dl f g k := by show (if f k = g k then _ else _) = _; rw [if_pos he]
        have HE := Lib.hid HE
        refine wp_soft0 8 (by kernel_rfl) (by kernel_rfl) (tail_end (by kernel_rfl)) ?_
        simp only [List.take_succ_cons, List.take_zero]
        repeat (refine softLex_step (by rfl) (by rfl) (fun K hK => ?_); go_simp; (refine hK _ ?_; clear hK K))
        refine softLex_nil ?_
        intro w6 hb6
        replace B5 := bt B5 hb6
        replace B6 := bt B6 hb6
        replace own5 := own_below own5 hb6
        clear hb6 g5 q5 l5 r0 r1 l8 h8
        go_wp2
        go_roundw
        case rel => exact ⟨k + 1, by omega, by go_num, B5, B6, by rw [HE.out]; exact own5⟩
        case measure => simp [intOf]; omega
      · have HE : dl f g (k + 1) = dl f g k ++ [((k : Int) + 1, g k)] := by show (if f k = g k then _ else _) = _; rw [if_neg he]
        have HO : prsL (dl f g (k + 1)) = prsL (dl f g k) ++ [.int .i64 ((k : Int) + 1), .int .i64 (g k)] := by rw [HE, prsL_append]
        have HL : (dl f g (k + 1)).length = (dl f g k).length + 1 := by rw [HE]; simp
        have HO := Lib.hid HO
        have HL := Lib.hid HL
        have hlen := dl_len f g k
        clear HE
        generalize prsL (dl f g k) = L at *
        generalize (dl f g k).length = n at *
        refine wp_soft0 8 (by kernel_rfl) (by kernel_rfl) (tail_end (by kernel_rfl)) ?_
        simp only [List.take_succ_cons, List.take_zero]
        repeat (refine softLex_step (by rfl) (by rfl) (fun K hK => ?_); go_simp; (refine hK _ ?_; clear hK K))
        refine softLex_nil ?_
        intro w6 hb6
        replace B5 := bt B5 hb6
        replace B6 := bt B6 hb6
        replace own5 := own_below own5 hb6
        replace h8 := blk_grow hb6 h8
        clear hb6 g5 q5 l5 r0 r1 l8
        have r0 := blk_cell h8 0
        have r1 := blk_cell h8 1
        have l8 := blk_lt h8
        simp only [List.getElem?_toArray, List.getElem?_cons_zero, List.getElem?_cons_succ] at r0 r1
        go_wp2_with (at_builtin; refine unhalt ?_)
        unfold Halted
        refine wpList_append_own _ rfl (.tmp 34) (.tmp 36) 27 rfl w4.heap.size 39 i0 (.agg #[.int .i64 0, .int .i64 0]) 2 16 Try.underlying27 hi hz0 hz1 hz2 rfl (by decide) u6 n _ rfl (?_ : World.ownsRow _ _ _ _ _ _ L) _ 1 1 [.int .i64 ((k : Int) + 1), .int .i64 (g k)] rfl rfl ?_ ?_ ?_ ?_ ?_ ?_
        · exact own5.alloc _
        · intro j u hj
          rcases j with _ | _ | j
          · have hu : u = .int .i64 ((k : Int) + 1) := by simpa using hj.symm
            subst hu
            simp [Addr.add]
          · have hu : u = .int .i64 (g k) := by simpa using hj.symm
            subst hu
            simp [Addr.add]
          · simp at hj
        · intro u hu
          have hu : u = .int .i64 ((k : Int) + 1) ∨ u = .int .i64 (g k) := by simpa using hu
          rcases hu with rfl | rfl <;> rfl
        · unfold maxLen; omega
        · omega
        · have := B6.size
          simp
          omega
        · intro v' w' hown' hgrow _
          have hlt' := own5.lt
          have hW := bta B5 (Obj.cells #[Value.int IntKind.i64 ((k : Int) + 1), Value.int IntKind.i64 (g k)] 39)
          have hW6 := bta B6 (Obj.cells #[Value.int IntKind.i64 ((k : Int) + 1), Value.int IntKind.i64 (g k)] 39)
          have sz := B4.size
          have hB' := hW.grown hgrow hW.size fun g hg => by
            have := (hlt' g hg).1
            omega
          have hB6 := hW6.grown hgrow hW6.size fun g hg => by
            have := (hlt' g hg).1
            omega
          clear hW hW6 hgrow hlt' own5 r0 r1 l8 h8 B5 B6 sz
          go_wp2
          go_roundw
          case rel => exact ⟨k + 1, by omega, by go_num, hB', hB6, by rw [HO.out, HL.out]; exact hown'⟩
          case measure => simp [intOf]; omega
    · obtain rfl : k = 4 := by omega
      go_wp2
      go_returns
      exact ⟨_, rfl, hb, own_lower hown B4.size⟩

end Go.Proofs.Ytgjajliiichfmaa
