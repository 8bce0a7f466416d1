/- The contract of Apply of the package tune: what settings make of values, by a plain function; all memory that stood before is left as it was. -/
import Derived.Test.YtgjajliiichfmaaT6
namespace Go.Proofs.Ytgjajliiichfmaa
open Go.RowKit
attribute [local go_sem] cell_over frozen_over lt_over le_over ne_over over_ne cell_set_same softAt softUpon rows_eq

abbrev V4 := Int × Int × Int × Int
def okV (v : V4) : Prop := okT v.1 v.2.1 v.2.2.1 v.2.2.2
instance (v : V4) : Decidable (okV v) := by unfold okV; infer_instance
def agV (v : V4) : Value := .agg #[.int .i64 v.1, .int .i64 v.2.1, .int .i64 v.2.2.1, .int .i64 v.2.2.2]
/-- One setting counts. -/
def putV (v : V4) (i x : Int) : V4 := if i = 1 then (x, v.2) else if i = 2 then (v.1, x, v.2.2) else if i = 3 then (v.1, v.2.1, x, v.2.2.2) else (v.1, v.2.1, v.2.2.1, x)
def codeV (i : Int) : Int := if i = 2 ∨ i = 3 then 3 else 1
/-- All settings, from values that may be. -/
def apV : V4 → List (Int × Int) → V4 × Int
  | v, [] => (v, 0)
  | v, p :: l => if p.1 < 1 ∨ 4 < p.1 then apV v l else if okV (putV v p.1 p.2) then apV (putV v p.1 p.2) l else ((0, 0, 0, 0), codeV p.1)
def applyV (v : V4) (l : List (Int × Int)) : V4 × Int := if okV v then apV v l else ((0, 0, 0, 0), 2)

/-- Two results, the first one a struct in memory. -/
theorem results_row_tmp {P : Program} {fn : Func} {p u : Tmp} {ty : TypeId} (h : fn.results = #[.cell p ty, .tmp u]) (tmps : Array Value) (w : World) (g : Nat) (t : TypeId) (cs : Array Value) (fr : Nat × Nat) (d : TypeDesc)
    (hp : tmps.getD p undef = .pointer (some ⟨g, 0, none⟩)) (hg : w.heap[g]? = some (.cells cs t fr))
    (hu : P.underlying ty = some d) (hd : (match d with | .struct _ | .array _ _ => true | _ => false) = true) (hi : (P.info? ty).map (·.size) = some cs.size) :
    (results fn tmps).run P w = .ok (.tuple #[.agg cs, tmps.getD u undef]) w := by
  rw [results_cell_tmp h, hp]
  simp [asAddr, run_loadVar_row w g t ty cs fr d hg hu hd hi]

theorem row_put {w : World} {b : Nat} {v : V4} (h : w.heap[b]? = some (row42 v.1 v.2.1 v.2.2.1 v.2.2.2)) (j : Nat) (hj : j < 4) (x : Int) :
    (w.setCell ⟨b, j, none⟩ (.int .i64 x)).heap[b]? = some (row42 (putV v ((j : Int) + 1) x).1 (putV v ((j : Int) + 1) x).2.1 (putV v ((j : Int) + 1) x).2.2.1 (putV v ((j : Int) + 1) x).2.2.2) := by
  refine (blk_set h j _).trans ?_
  have h : j = 0 ∨ j = 1 ∨ j = 2 ∨ j = 3 := by omega
  rcases h with rfl | rfl | rfl | rfl <;> rfl

theorem apply_no (v : V4) (hv : ¬ okV v) (x : Option Addr) (n c1 : Nat) (w : World) :
    Calls Try.prog 8 #[.agg #[.int .i64 v.1, .int .i64 v.2.1, .int .i64 v.2.2.1, .int .i64 v.2.2.2], .slice x n c1] w fun e w' => e = .returned (.tuple #[.agg #[.int .i64 0, .int .i64 0, .int .i64 0, .int .i64 0], .int .u32 2]) ∧ Below w.heap.size w w' := by
  have C1 := Lib.hid (check_no (show ¬ okT v.1 v.2.1 v.2.2.1 v.2.2.2 from hv))
  obtain ⟨a, b, c, d⟩ := v
  dsimp only at *
  clear hv
  go_enter Try.func8, Try.ntmps8
  go_wp2_with (first
    | ((with_reducible refine (C1.out _).mono ?_); rintro e w1 ⟨rfl, hb⟩;
        have h4 := blk_grow hb (blk_new (n := w.heap.size + 1) (by simp)); have B1 := bt (bta (bta (Below.refl _ _) _) _) hb; clear hb; obtain ⟨a0, a1, a2, a3, a4, a5, a6, a7, a8⟩ := cells4 h4; have f0 := blk_free h4 0; have f1 := blk_free h4 1; have f2 := blk_free h4 2; have f3 := blk_free h4 3))
  refine bodyPost_ret (results_row_tmp Try.results8 _ _ (w.heap.size + 1) 24 _ _ _ rfl (set4 h4 _ _ _ _) Try.underlying24 rfl (by kernel_rfl)) rfl ⟨rfl, bst4 B1 (by omega) _ _ _ _⟩

set_option maxHeartbeats 4000000 in
theorem apply_yes (v0 : V4) (hv : okV v0) (l : List (Int × Int)) (x : Option Addr) (c1 : Nat) (w : World) (hp : Prs w x l) (hn : l.length ≤ 1000) (r : V4 × Int) (hr : apV v0 l = r) :
    Calls Try.prog 8 #[.agg #[.int .i64 v0.1, .int .i64 v0.2.1, .int .i64 v0.2.2.1, .int .i64 v0.2.2.2], .slice x l.length c1] w fun e w' => e = .returned (.tuple #[.agg #[.int .i64 r.1.1, .int .i64 r.1.2.1, .int .i64 r.1.2.2.1, .int .i64 r.1.2.2.2], .int .u32 r.2]) ∧ Below w.heap.size w w' := by
  have C1 := Lib.hid (check_yes (show okT v0.1 v0.2.1 v0.2.2.1 v0.2.2.2 from hv))
  have R1 := Lib.hid (row_any v0.1 v0.2.1 v0.2.2.1 v0.2.2.2)
  have HP := Lib.hid hp
  have HR := Lib.hid hr
  have HL : ∀ k, k ≤ l.length → k = l.length → l.drop k = [] := fun k _ h => by rw [h]; exact List.drop_length
  have HC : ∀ k, k < l.length → ∃ p, l[k]? = some p ∧ l.drop k = p :: l.drop (k + 1) := fun k h => ⟨l[k], List.getElem?_eq_getElem h, List.drop_eq_getElem_cons h⟩
  replace HL := Lib.hid HL
  replace HC := Lib.hid HC
  clear hv hp hr
  generalize hlen : l.length = n at *
  go_enter Try.func8, Try.ntmps8
  go_wp2_with (first
    | ((with_reducible refine (C1.out _).mono ?_); rintro e w1 ⟨rfl, hb⟩;
        have h2 := blk_grow hb (blk_old (blk_new rfl)); have h4 := blk_grow hb (blk_new (n := w.heap.size + 1) (by simp)); have B1 := bt (bta (bta (Below.refl _ _) _) _) hb; clear hb; obtain ⟨a0, a1, a2, a3, a4, a5, a6, a7, a8⟩ := cells4 h2)
    | ((with_reducible refine (R1.out _).mono ?_); rintro e w2 ⟨rfl, hb⟩; replace h4 := blk_grow hb h4; have B2 := bt B1 hb; clear hb B1 h2 a0 a1 a2 a3 a4 a5 a6 a7 a8))
  have q6 := blk_lt h4
  replace h4 := blk_old (o := row42 v0.1 v0.2.1 v0.2.2.1 v0.2.2.2) h4
  have h6 := blk_new (w := w2) (o := row42 v0.1 v0.2.1 v0.2.2.1 v0.2.2.2) rfl
  have B3 := bta B2 (row42 v0.1 v0.2.1 v0.2.2.1 v0.2.2.2)
  have s6 := B2.size
  unfold row42 at *
  generalize w2.heap.size = p6 at *
  generalize w2.alloc (.cells #[.int .i64 v0.1, .int .i64 v0.2.1, .int .i64 v0.2.2.1, .int .i64 v0.2.2.2] 42) = w3 at *
  clear B2 C1 R1
  go_loopw [17] (fun i wr => ∃ k v, k ≤ n ∧ i = .int .i64 (k : Nat) ∧ Below w.heap.size w wr ∧ wr.heap[w.heap.size + 1]? = some (.cells #[.int .i64 0, .int .i64 0, .int .i64 0, .int .i64 0] 24 (0, 0)) ∧ wr.heap[p6]? = some (row42 v.1 v.2.1 v.2.2.1 v.2.2.2) ∧ apV v (l.drop k) = r)
    (fun i _ => n - (intOf i).toNat)
  case atStart => exact ⟨0, v0, Nat.zero_le _, rfl, B3, h4, h6, by rw [List.drop_zero]; exact HR.out⟩
  case round =>
    obtain ⟨k, v, hk, rfl, hb, g4, g6, hr⟩ := hrel
    clear h4 h6
    by_cases hlt : k < n
    · have k0 : (0 : Int) ≤ (k : Int) := by omega
      have k1 : (k : Int) < (n : Int) := by omega
      have k2 : IntKind.i64.wrap (k : Int) = k := IntWalk.i64_in _ (by omega)
      obtain ⟨p, hpk, hdrop⟩ := HC.out k hlt
      rw [hdrop] at hr
      obtain ⟨bb, oo, rfl, e0, e1⟩ := HP.out k p hpk
      obtain ⟨i, y⟩ := p
      dsimp only at e0 e1
      have q0 := cell_below hb e0
      have q1 := cell_below hb e1
      rw [← Nat.add_assoc] at q1
      clear e0 e1 hpk hdrop
      by_cases hout : i < 1 ∨ 4 < i
      · have hr' : apV v (l.drop (k + 1)) = r := by
          rw [← hr]
          show _ = if i < 1 ∨ 4 < i then _ else _
          rw [if_pos hout]
        have HR' := Lib.hid hr'
        clear hr hr'
        rcases hout with ho | ho
        · go_wp2
          exact ⟨⟨k + 1, v, by omega, by go_num, bta hb _, blk_old g4, blk_old g6, HR'.out⟩, by simp [intOf]; omega⟩
        · have hn1 : ¬ i < 1 := by omega
          go_wp2
          exact ⟨⟨k + 1, v, by omega, by go_num, bta hb _, blk_old g4, blk_old g6, HR'.out⟩, by simp [intOf]; omega⟩
      · obtain ⟨j, rfl⟩ : ∃ j : Nat, i = (j : Int) + 1 := ⟨(i - 1).toNat, by omega⟩
        have hj : j < 4 := by omega
        have hr' : (if okV (putV v ((j : Int) + 1) y) then apV (putV v ((j : Int) + 1) y) (l.drop (k + 1)) else ((0, 0, 0, 0), codeV ((j : Int) + 1))) = r := by
          rw [← hr]
          show _ = if (j : Int) + 1 < 1 ∨ 4 < (j : Int) + 1 then _ else _
          rw [if_neg hout]
        have HR' := Lib.hid hr'
        clear hr hr' hout
        have j0 : (0 : Int) ≤ (j : Int) := by omega
        have j1 : (j : Int) < 4 := by omega
        have j2 : ¬ ((j : Int) + 1 < 1) := by omega
        have j3 : ¬ ((j : Int) + 1 > 4) := by omega
        have w1 : IntKind.i64.wrap ((j : Int) + 1 - 1) = j := by rw [Int.add_sub_cancel]; exact IntWalk.i64_in _ (by omega)
        have w2 : IntKind.i64.wrap (j : Int) = j := IntWalk.i64_in _ (by omega)
        have f6 := blk_free g6 j
        have c6 := cell_at g6 j hj
        have l6 := blk_lt g6
        have g6' := blk_old (o := .cells #[.int .i64 ((j : Int) + 1), .int .i64 y] 39) (row_put g6 j hj y)
        have g4' := blk_old (o := .cells #[.int .i64 ((j : Int) + 1), .int .i64 y] 39) ((blk_far (a := ⟨p6, j, none⟩) (v := .int .i64 y) (Nat.ne_of_lt q6)).trans g4)
        have h8 := blk_new (w := wr.setCell ⟨p6, j, none⟩ (.int .i64 y)) (n := wr.heap.size) (o := .cells #[.int .i64 ((j : Int) + 1), .int .i64 y] 39) (by simp)
        have B5 := bta (bst hb (p := ⟨p6, j, none⟩) s6 (.int .i64 y)) (.cells #[.int .i64 ((j : Int) + 1), .int .i64 y] 39)
        generalize hv' : putV v ((j : Int) + 1) y = v' at *
        clear hv'
        go_wp2
        generalize wr.heap.size = p8 at *
        generalize (wr.setCell ⟨p6, j, none⟩ (.int .i64 y)).alloc (.cells #[.int .i64 ((j : Int) + 1), .int .i64 y] 39) = w5 at *
        clear g6 g4 q0 q1 f6 c6 l6 hb
        obtain ⟨a, b, c, d⟩ := v'
        unfold row42 at g6'
        dsimp only at *
        obtain ⟨a0, a1, a2, a3, a4, a5, a6, a7, a8⟩ := cells4 g6'
        by_cases hok : okT a b c d
        · have HB := Lib.hid (bent_yes hok)
          have HR2 := HR'.out
          rw [if_pos (show okV (a, b, c, d) from hok)] at HR2
          have HR2 := Lib.hid HR2
          refine wp_soft0 4 (by kernel_rfl) (by kernel_rfl) (tail_end (by kernel_rfl)) ?_
          simp only [List.take_succ_cons, List.take_zero]
          repeat (refine softLex_step (by rfl) (by rfl) (fun K hK => ?_); go_simp; first | (refine hK _ ?_; clear hK K) | (apply Exists.intro; refine ⟨fun x => ?_, hK _ ?_⟩; (first | (with_reducible exact HB.out _)); clear hK K))
          refine softLex_nil ?_
          intro w6 hb6
          replace B5 := bt B5 hb6
          replace g6' := blk_grow hb6 g6'
          replace g4' := blk_grow hb6 g4'
          clear hb6 a0 a1 a2 a3 a4 a5 a6 a7 a8 h8
          go_wp2
          exact ⟨⟨k + 1, (a, b, c, d), by omega, by go_num, B5, g4', g6', HR2.out⟩, by simp [intOf]; omega⟩
        · have HR2 := HR'.out
          rw [if_neg (show ¬ okV (a, b, c, d) from hok)] at HR2
          subst HR2
          rw [okT_row] at hok
          have HB := Lib.hid (bent_any a b c d)
          generalize cl 0 8 a = a' at *
          generalize cl 1 4096 b = b' at *
          generalize cl 1 1048576 c = c' at *
          generalize cl 1 32 d = d' at *
          have H := Lib.hid hok
          clear hok
          refine wp_soft0 4 (by kernel_rfl) (by kernel_rfl) (tail_end (by kernel_rfl)) ?_
          simp only [List.take_succ_cons, List.take_zero]
          repeat (refine softLex_step (by rfl) (by rfl) (fun K hK => ?_); go_simp; first | (refine hK _ ?_; clear hK K) | (apply Exists.intro; refine ⟨fun x => ?_, hK _ ?_⟩; (first | (with_reducible exact HB.out _)); clear hK K))
          refine softLex_nil ?_
          intro w6 hb6
          replace B5 := bt B5 hb6
          replace h8 := blk_grow hb6 h8
          replace g4' := blk_grow hb6 g4'
          clear hb6 a0 a1 a2 a3 a4 a5 a6 a7 a8 g6'
          have hv : (decide (a = a') && (decide (b = b') && (decide (c = c') && decide (d = d')))) = false := by
            have := H.out
            by_cases h1 : a = a' <;> by_cases h2 : b = b' <;> by_cases h3 : c = c' <;> by_cases h4 : d = d' <;> simp_all
          rw [hv]
          have r0 := blk_cell h8 0
          have l8 := blk_lt h8
          simp only [List.getElem?_toArray, List.getElem?_cons_zero] at r0
          obtain ⟨a0, a1, a2, a3, a4, a5, a6, a7, a8⟩ := cells4 g4'
          have f0 := blk_free g4' 0
          have f1 := blk_free g4' 1
          have f2 := blk_free g4' 2
          have f3 := blk_free g4' 3
          clear hv H HB HR' HP HR HC HL h8
          have hj4 : j = 0 ∨ j = 1 ∨ j = 2 ∨ j = 3 := by omega
          rcases hj4 with rfl | rfl | rfl | rfl
          all_goals simp only [show ((0 : Nat) : Int) + 1 = 1 from rfl, show ((1 : Nat) : Int) + 1 = 2 from rfl, show ((2 : Nat) : Int) + 1 = 3 from rfl, show ((3 : Nat) : Int) + 1 = 4 from rfl] at r0 ⊢
          all_goals go_wp2
          all_goals refine bodyPost_ret (results_row_tmp Try.results8 _ _ (w.heap.size + 1) 24 _ _ _ rfl (set4 g4' _ _ _ _) Try.underlying24 rfl (by kernel_rfl)) rfl ⟨rfl, bst4 B5 (by omega) _ _ _ _⟩
    · obtain rfl : k = n := by omega
      rw [HL.out k (Nat.le_refl _) rfl] at hr
      have hr : (v, (0 : Int)) = r := hr
      subst hr
      obtain ⟨a, b, c, d⟩ := v
      unfold row42 at g6
      dsimp only at *
      have V := Lib.hid (values_any a b c d)
      obtain ⟨a0, a1, a2, a3, a4, a5, a6, a7, a8⟩ := cells4 g6
      go_wp2_with (first
        | ((with_reducible refine (V.out _).mono ?_); rintro e w5 ⟨rfl, hc⟩;
            replace hb := bt hb hc; replace g4 := blk_grow hc g4; clear hc g6 a0 a1 a2 a3 a4 a5 a6 a7 a8; obtain ⟨a0, a1, a2, a3, a4, a5, a6, a7, a8⟩ := cells4 g4; have f0 := blk_free g4 0; have f1 := blk_free g4 1; have f2 := blk_free g4 2; have f3 := blk_free g4 3))
      refine bodyPost_ret (results_row_tmp Try.results8 _ _ (w.heap.size + 1) 24 _ _ _ rfl (set4 g4 _ _ _ _) Try.underlying24 rfl (by kernel_rfl)) rfl ⟨rfl, bst4 hb (by omega) _ _ _ _⟩

theorem apply_any (v0 : V4) (l : List (Int × Int)) (x : Option Addr) (c1 : Nat) (w : World) (hp : Prs w x l) (hn : l.length ≤ 1000) :
    Calls Try.prog 8 #[.agg #[.int .i64 v0.1, .int .i64 v0.2.1, .int .i64 v0.2.2.1, .int .i64 v0.2.2.2], .slice x l.length c1] w fun e w' => e = .returned (.tuple #[.agg #[.int .i64 (applyV v0 l).1.1, .int .i64 (applyV v0 l).1.2.1, .int .i64 (applyV v0 l).1.2.2.1, .int .i64 (applyV v0 l).1.2.2.2], .int .u32 (applyV v0 l).2]) ∧ Below w.heap.size w w' := by
  unfold applyV
  by_cases h : okV v0
  · rw [if_pos h]; exact apply_yes v0 h l x c1 w hp hn _ rfl
  · rw [if_neg h]; exact apply_no v0 h x l.length c1 w
end Go.Proofs.Ytgjajliiichfmaa
