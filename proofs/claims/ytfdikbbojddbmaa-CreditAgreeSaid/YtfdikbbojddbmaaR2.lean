/- Run of the plain package, and SameInts of two rows that are the same. -/
import Derived.Test.YtfdikbbojddbmaaR
import Derived.Test.YtfdikbbojddbmaaS
namespace Go.Proofs.Ytfdikbbojddbmaa
open Go.RowKit
attribute [local go_sem] cell_over frozen_over lt_over le_over ne_over over_ne cell_set_same softAt softUpon

theorem same_any (a1 a2 : Option Addr) (n c1 c2 : Nat) (f : Nat → Int) (w : World) (h1 : Ints w a1 n f) (h2 : Ints w a2 n f) (hn : n ≤ 1000) :
    Calls Try.prog 12 #[.slice a1 n c1, .slice a2 n c2] w fun e w' => e = .returned (.bool true) ∧ Below w.heap.size w w' := by
  have H1 := Lib.hid h1
  have H2 := Lib.hid h2
  clear h1 h2
  go_enter Try.func12, Try.ntmps12
  go_wp2
  go_loopw [5] (fun i wr => ∃ k : Nat, k ≤ n ∧ i = .int .i64 k ∧ Below w.heap.size w wr)
    (fun i _ => n - (intOf i).toNat)
  case atStart => exact ⟨0, Nat.zero_le _, rfl, Below.refl _ _⟩
  case round =>
    obtain ⟨k, hk, rfl, hb⟩ := hrel
    by_cases hlt : k < n
    · obtain ⟨b1, o1, rfl, g1⟩ := H1.out k hlt
      obtain ⟨b2, o2, rfl, g2⟩ := H2.out k hlt
      have q1 := cell_below hb g1
      have q2 := cell_below hb g2
      have l1 := World.block_lt_of_cell? _ _ q1
      have l2 := World.block_lt_of_cell? _ _ q2
      have k0 : (0 : Int) ≤ (k : Int) := by omega
      have k1 : (k : Int) < (n : Int) := by omega
      have k2 : IntKind.i64.wrap (k : Int) = k := IntWalk.i64_in _ (by omega)
      clear g1 g2
      go_wp2
      refine wp_soft0 9 (by kernel_rfl) (by kernel_rfl) (tail_end (by kernel_rfl)) ?_
      simp only [List.take_succ_cons, List.take_zero]
      repeat (refine softLex_step (by rfl) (by rfl) (fun K hK => ?_); go_simp; (refine hK _ ?_; clear hK K))
      refine softLex_nil ?_
      intro w5 hb5
      have hb := bt hb hb5
      clear hb5 q1 q2
      go_wp2
      go_roundw
      case rel => exact ⟨k + 1, by omega, by go_num, hb⟩
      case measure => simp [intOf]; omega
    · obtain rfl : k = n := by omega
      go_wp2
      go_returns
      exact ⟨rfl, hb⟩

theorem own_below {w w' : World} {base : Nat} {e : TypeId} {size : Nat} {v : Value} {n : Nat} {xs : List Value} (h : w.ownsRow base e size v n xs) (hb : Below w.heap.size w w') : w'.ownsRow base e size v n xs := by
  refine ⟨h.1, ?_⟩
  rcases h.2 with hn | ⟨g, cap, cur, hv, hb', hg, rest⟩
  · exact .inl hn
  · exact .inr ⟨g, cap, cur, hv, hb', blk_grow hb hg, rest⟩

def led23 (l : L4) : Obj := .cells #[.int .i64 l.1, .int .i64 l.2.1, .int .i64 l.2.2.1, .int .i64 l.2.2.2] 23 (0, 0)

set_option maxHeartbeats 2000000 in
theorem rrun_any (t0 t1 t2 t3 : Int) (a1 : Option Addr) (n c1 : Nat) (ks : Nat → Nat) (ns : Nat → Int) (w : World) (ha : Acts w a1 n ks ns) (hks : ∀ i, ks i ≤ 255) (hn : n ≤ 1000) :
    Calls Try.prog 11 #[.agg #[.int .i64 t0, .int .i64 t1, .int .i64 t2, .int .i64 t3], .slice a1 n c1] w fun e w' => ∃ v, e = .returned (.tuple #[.agg #[.int .i64 (runV (t0, t1, t2, t3) ks ns n).1, .int .i64 (runV (t0, t1, t2, t3) ks ns n).2.1, .int .i64 (runV (t0, t1, t2, t3) ks ns n).2.2.1, .int .i64 (runV (t0, t1, t2, t3) ks ns n).2.2.2], v]) ∧
      Below w.heap.size w w' ∧ w'.ownsRow (w.heap.size + 2) 3 1 v n (outs (resV (t0, t1, t2, t3) ks ns) n) := by
  have HA := Lib.hid ha
  have HK := Lib.hid hks
  clear ha hks
  obtain ⟨i0, hi, hz0, hz1, hz2⟩ := info_parts info3
  go_enter Try.func11, Try.ntmps11
  go_wp2
  go_loopw [6, 7] (fun v i wr => ∃ k : Nat, k ≤ n ∧ i = .int .i64 k ∧ Below w.heap.size w wr ∧ wr.heap[w.heap.size]? = some (led23 (runV (t0, t1, t2, t3) ks ns k)) ∧ wr.heap[w.heap.size + 1]? = some (led23 (0, 0, 0, 0)) ∧ wr.ownsRow (w.heap.size + 2) 3 1 v k (outs (resV (t0, t1, t2, t3) ks ns) k))
    (fun _ i _ => n - (intOf i).toNat)
  case atStart =>
    refine ⟨0, Nat.zero_le _, rfl, by go_grown, ?_, ?_, World.ownsRow_nil _ _ _ _⟩
    · exact blk_old (blk_new rfl)
    · exact blk_new (by simp)
  case round =>
    obtain ⟨k, hk, rfl, hb, hA, hB, hown⟩ := hrel
    by_cases hlt : k < n
    · obtain ⟨b, o, rfl, g1, g2⟩ := HA.out k hlt
      have q1 := cell_below hb g1
      have q2 := cell_below hb g2
      have lq := World.block_lt_of_cell? _ _ q1
      have hsz := blk_lt hB
      have S := rone_any (runV (t0, t1, t2, t3) ks ns k).1 (runV (t0, t1, t2, t3) ks ns k).2.1 (runV (t0, t1, t2, t3) ks ns k).2.2.1 (runV (t0, t1, t2, t3) ks ns k).2.2.2 (ns k) (ks k) (HK.out k)
      have e1 : runV (t0, t1, t2, t3) ks ns (k + 1) = (oneV (runV (t0, t1, t2, t3) ks ns k) (ks k) (ns k)).1 := rfl
      have e2 : resV (t0, t1, t2, t3) ks ns k = (oneV (runV (t0, t1, t2, t3) ks ns k) (ks k) (ns k)).2 := rfl
      have S2 : ∀ w, Calls Try.prog 27 #[.agg #[.int .i64 (runV (t0, t1, t2, t3) ks ns k).1, .int .i64 (runV (t0, t1, t2, t3) ks ns k).2.1, .int .i64 (runV (t0, t1, t2, t3) ks ns k).2.2.1, .int .i64 (runV (t0, t1, t2, t3) ks ns k).2.2.2], .agg #[.int .u8 (ks k), .int .i64 (ns k)]] w fun e w' => e = .returned (.tuple #[.agg #[.int .i64 (runV (t0, t1, t2, t3) ks ns (k + 1)).1, .int .i64 (runV (t0, t1, t2, t3) ks ns (k + 1)).2.1, .int .i64 (runV (t0, t1, t2, t3) ks ns (k + 1)).2.2.1, .int .i64 (runV (t0, t1, t2, t3) ks ns (k + 1)).2.2.2], .int .i64 (resV (t0, t1, t2, t3) ks ns k)]) ∧ Below w.heap.size w w' := by
        rw [e1, e2]; exact S
      have HS := Lib.hid S2
      have hO0 := outs_succ (resV (t0, t1, t2, t3) ks ns) k
      generalize resV (t0, t1, t2, t3) ks ns k = r at *
      generalize hL1 : runV (t0, t1, t2, t3) ks ns (k + 1) = L' at *
      have HL := Lib.hid hL1
      generalize runV (t0, t1, t2, t3) ks ns k = L at *
      have HO := Lib.hid hO0
      clear S S2 e1 e2 g1 g2 hO0 hL1
      unfold led23 at hA hB
      have c0 := blk_cell hA 0
      have c1 := blk_cell hA 1
      have c2 := blk_cell hA 2
      have c3 := blk_cell hA 3
      have f0 := blk_free hA 0
      have f1 := blk_free hA 1
      have f2 := blk_free hA 2
      have f3 := blk_free hA 3
      simp only [List.getElem?_toArray, List.getElem?_cons_zero, List.getElem?_cons_succ] at c0 c1 c2 c3
      have k0 : (0 : Int) ≤ (k : Int) := by omega
      have k1 : (k : Int) < (n : Int) := by omega
      have k2 : IntKind.i64.wrap (k : Int) = k := IntWalk.i64_in _ (by omega)
      have l0 : w.heap.size < wr.heap.size := by omega
      have l1 : w.heap.size < wr.heap.size + 1 := by omega
      go_wp2
      refine wp_soft1 12 ⟨9, 8, fun b => .pointer (some ⟨b, 0, none⟩), led23 (0, 0, 0, 0), some 10, led23 L'⟩ (by kernel_rfl) (by kernel_rfl) (tail_end (by kernel_rfl)) ?_
      simp only [List.take_succ_cons, List.take_zero]
      repeat (first | (refine softLex_step (by rfl) (by rfl) (fun K hK => ?_); go_simp; first | (refine hK _ ?_; clear hK K) | (apply Exists.intro; refine ⟨fun x => ?_, hK _ ?_⟩; (with_reducible exact HS.out _); clear hK K)))
      refine softLex_new _ rfl rfl rfl (fun y => by go_simp; rfl) ?_
      refine softLex_fill _ rfl rfl rfl rfl (fun y b hb => ?_) ?_
      · unfold led23 at hb
        have e0 := blk_cell hb 0
        have e1 := blk_cell hb 1
        have e2 := blk_cell hb 2
        have e3 := blk_cell hb 3
        have e4 := blk_free hb 0
        have e5 := blk_free hb 1
        have e6 := blk_free hb 2
        have e7 := blk_free hb 3
        simp only [List.getElem?_toArray, List.getElem?_cons_zero, List.getElem?_cons_succ] at e0 e1 e2 e3
        refine ⟨_, ?_, ((((Turned.refl hb).setCell 0 _).setCell 1 _).setCell 2 _).setCell 3 _⟩
        go_simp
      repeat (first | (refine softLex_step (by rfl) (by rfl) (fun K hK => ?_); go_simp; first | (refine hK _ ?_; clear hK K)))
      refine softLex_nil ?_
      intro w5 pb hb5 hpb hp
      have hp : w5.heap[pb]? = some (.cells #[.int .i64 L'.1, .int .i64 L'.2.1, .int .i64 L'.2.2.1, .int .i64 L'.2.2.2] 23 (0, 0)) := hp
      have B5 := bt hb hb5
      have hA5 := blk_grow hb5 hA
      have hB5 := blk_grow hb5 hB
      have hown5 := own_below hown hb5
      have hsz5 := blk_lt hB5
      clear c0 c1 c2 c3 f0 f1 f2 f3 q1 q2 lq hA hB hown
      have c0 := blk_cell hA5 0
      have c1 := blk_cell hA5 1
      have c2 := blk_cell hA5 2
      have c3 := blk_cell hA5 3
      have f0 := blk_free hA5 0
      have f1 := blk_free hA5 1
      have f2 := blk_free hA5 2
      have f3 := blk_free hA5 3
      have p0 := blk_cell hp 0
      have p1 := blk_cell hp 1
      have p2 := blk_cell hp 2
      have p3 := blk_cell hp 3
      simp only [List.getElem?_toArray, List.getElem?_cons_zero, List.getElem?_cons_succ] at c0 c1 c2 c3 p0 p1 p2 p3
      have hne : pb ≠ w.heap.size := by omega
      clear hb5 hpb hb
      go_wp2_with (at_builtin; refine unhalt ?_)
      unfold Halted
      refine wpList_append_own _ rfl (.tmp 26) (.tmp 28) 32 rfl (w.heap.size + 2) 3 i0 (.int .i64 0) 1 8 Try.underlying32 hi hz0 hz1 hz2 rfl (by decide) u6 k _ rfl (?_ : World.ownsRow _ _ _ _ _ _ (outs (resV (t0, t1, t2, t3) ks ns) k)) _ 1 1 [.int .i64 r] rfl rfl ?_ ?_ ?_ ?_ ?_ ?_
      · exact World.ownsRow.alloc (ownsRow_setCell_below (ownsRow_setCell_below (ownsRow_setCell_below (ownsRow_setCell_below hown5 (by simp) _) (by simp) _) (by simp) _) (by simp) _) _
      · intro j u hj
        have hj0 : j = 0 := by
          rcases j with _ | j
          · rfl
          · simp at hj
        subst hj0
        have hu : u = .int .i64 r := by simpa using hj.symm
        subst hu
        have := blk_cell (heap_alloc_new ((((w5.setCell ⟨w.heap.size, 0, none⟩ (Value.int IntKind.i64 L'.1)).setCell ⟨w.heap.size, 1, none⟩ (Value.int IntKind.i64 L'.2.1)).setCell ⟨w.heap.size, 2, none⟩ (Value.int IntKind.i64 L'.2.2.1)).setCell ⟨w.heap.size, 3, none⟩ (Value.int IntKind.i64 L'.2.2.2)) (Obj.cells #[Value.int IntKind.i64 r] 3)) 0
        simpa [Addr.add] using this
      · intro u hu
        have hu : u = .int .i64 r := by simpa using hu
        subst hu
        rfl
      · unfold maxLen; omega
      · omega
      · simp
        omega
      · intro v' w' hown' hgrow _
        have hlt' := hown5.lt
        have hW : Below w.heap.size w ((((w5.setCell ⟨w.heap.size, 0, none⟩ (Value.int IntKind.i64 L'.1)).setCell ⟨w.heap.size, 1, none⟩ (Value.int IntKind.i64 L'.2.1)).setCell ⟨w.heap.size, 2, none⟩ (Value.int IntKind.i64 L'.2.2.1)).setCell ⟨w.heap.size, 3, none⟩ (Value.int IntKind.i64 L'.2.2.2)) :=
          bst (bst (bst (bst B5 (Nat.le_refl _) _) (Nat.le_refl _) _) (Nat.le_refl _) _) (Nat.le_refl _) _
        have hW := bta hW (Obj.cells #[Value.int IntKind.i64 r] 3)
        have h1 := blk_old (o := Obj.cells #[Value.int IntKind.i64 r] 3) (blk_set (blk_set (blk_set (blk_set hA5 0 (Value.int IntKind.i64 L'.1)) 1 (Value.int IntKind.i64 L'.2.1)) 2 (Value.int IntKind.i64 L'.2.2.1)) 3 (Value.int IntKind.i64 L'.2.2.2))
        have h2 : ((((w5.setCell ⟨w.heap.size, 0, none⟩ (Value.int IntKind.i64 L'.1)).setCell ⟨w.heap.size, 1, none⟩ (Value.int IntKind.i64 L'.2.1)).setCell ⟨w.heap.size, 2, none⟩ (Value.int IntKind.i64 L'.2.2.1)).setCell ⟨w.heap.size, 3, none⟩ (Value.int IntKind.i64 L'.2.2.2)).heap[w.heap.size + 1]? = some (led23 (0, 0, 0, 0)) := by
          rw [blk_far (by simp), blk_far (by simp), blk_far (by simp), blk_far (by simp)]
          exact hB5
        have h2 := blk_old (o := Obj.cells #[Value.int IntKind.i64 r] 3) h2
        have hne : ∀ g, g < w.heap.size + 2 → some g ≠ u6.ownBlock := fun g hg hc => by
          have := (hlt' g hc.symm).1
          omega
        have hf := hgrow.block w.heap.size (blk_lt h1) (hne _ (by omega))
        have hf2 := hgrow.block (w.heap.size + 1) (blk_lt h2) (hne _ (by omega))
        rw [h1] at hf
        rw [h2] at hf2
        have hB' := hW.grown hgrow hW.size fun g hg => by
          have := (hlt' g hg).1
          omega
        clear h1 h2 hW hgrow hlt' hne hown5 c0 c1 c2 c3 f0 f1 f2 f3 p0 p1 p2 p3 hp hA5 hB5 B5
        go_wp2
        go_roundw
        case rel => exact ⟨k + 1, by omega, by go_num, hB', by rw [HL.out]; exact hf, hf2, by rw [HO.out]; exact hown'⟩
        case measure => simp [intOf]; omega
    · obtain rfl : k = n := by omega
      have hsz := blk_lt hB
      generalize hL1 : runV (t0, t1, t2, t3) ks ns k = L at *
      have HL := Lib.hid hL1
      clear hL1
      unfold led23 at hA hB
      have c0 := blk_cell hA 0
      have c1 := blk_cell hA 1
      have c2 := blk_cell hA 2
      have c3 := blk_cell hA 3
      have d0 := blk_cell hB 0
      have d1 := blk_cell hB 1
      have d2 := blk_cell hB 2
      have d3 := blk_cell hB 3
      have f0 := blk_free hB 0
      have f1 := blk_free hB 1
      have f2 := blk_free hB 2
      have f3 := blk_free hB 3
      simp only [List.getElem?_toArray, List.getElem?_cons_zero, List.getElem?_cons_succ] at c0 c1 c2 c3 d0 d1 d2 d3
      go_wp2
      refine bodyPost_ret (results_row_tmp Try.results11 _ _ (w.heap.size + 1) 23 _ _ _ rfl (blk_set (blk_set (blk_set (blk_set hB 0 _) 1 _) 2 _) 3 _) Try.underlying23 rfl (by kernel_rfl)) rfl ⟨u6, ?_, ?_, ?_⟩
      · rw [HL.out]
        rfl
      · exact bst (bst (bst (bst hb (by simp) _) (by simp) _) (by simp) _) (by simp) _
      · exact ownsRow_setCell_below (ownsRow_setCell_below (ownsRow_setCell_below (ownsRow_setCell_below hown (by simp) _) (by simp) _) (by simp) _) (by simp) _

end Go.Proofs.Ytfdikbbojddbmaa
