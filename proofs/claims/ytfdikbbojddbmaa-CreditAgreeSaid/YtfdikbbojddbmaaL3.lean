/- The law CreditRuns: true, whatever the input. -/
import Derived.Test.YtfdikbbojddbmaaA
import Derived.Test.YtfdikbbojddbmaaS2
namespace Go.Proofs.Ytfdikbbojddbmaa
open Go.RowKit
attribute [local go_sem] cell_over frozen_over lt_over le_over ne_over over_ne cell_set_same openAt openUpon softAt softUpon callUpon

theorem own_turned {w w2 : World} {base b : Nat} {e t : TypeId} {size : Nat} {v : Value} {n : Nat} {xs : List Value} {cs : Array Value} {f : Nat × Nat} {o : Obj} (h : w.ownsRow base e size v n xs) (hb : w.heap[b]? = some (.cells cs t f)) (hte : t ≠ e) (ht : Turned w w2 b o) : w2.ownsRow base e size v n xs := by
  refine ⟨h.1, ?_⟩
  rcases h.2 with hn | ⟨g, cap, cur, hv, hb', hg, rest⟩
  · exact .inl hn
  · refine .inr ⟨g, cap, cur, hv, hb', ?_, rest⟩
    rw [ht.other g ?_]
    · exact hg
    · rintro rfl
      rw [hb] at hg
      cases hg
      exact hte rfl

theorem own_lower {w : World} {base base' : Nat} {e : TypeId} {size : Nat} {v : Value} {n : Nat} {xs : List Value} (h : w.ownsRow base e size v n xs) (hb : base' ≤ base) : w.ownsRow base' e size v n xs :=
  ⟨h.1, h.2.imp id fun ⟨g, cap, cur, h1, h2, h3⟩ => ⟨g, cap, cur, h1, Nat.le_trans hb h2, h3⟩⟩

theorem own_open (a1 : Option Addr) (n c1 : Nat) (ks : Nat → Nat) (ns : Nat → Int) (w : World) (ha : Acts w a1 n ks ns) (hn : n ≤ 1000) :
    Calls Try.prog 10 #[.slice a1 n c1] w fun e w' => ∃ x : Option Addr × Nat, e = .returned (.slice x.1 n x.2) ∧ Below w.heap.size w w' ∧ w'.ownsRow w.heap.size 64 2 (.slice x.1 n x.2) n (actsL ks ns n) := by
  refine (own_any a1 n c1 ks ns w ha hn).mono ?_
  rintro e w' ⟨v, rfl, hb, ho⟩
  obtain ⟨a, c, rfl, _⟩ := own_acts ho
  exact ⟨(a, c), rfl, hb, ho⟩
theorem run_open (l : L4) (a1 : Option Addr) (n c1 : Nat) (ks : Nat → Nat) (ns : Nat → Int) (w : World) (ha : Acts w a1 n ks ns) (hks : ∀ i, ks i ≤ 255) (hn : n ≤ 1000) :
    Calls Try.prog 9 #[.agg #[.int .i64 l.1, .int .i64 l.2.1, .int .i64 l.2.2.1, .int .i64 l.2.2.2], .slice a1 n c1] w fun e w' => ∃ x : Option Addr × Nat, e = .returned (.tuple #[.agg #[.int .i64 (runV l ks ns n).1, .int .i64 (runV l ks ns n).2.1, .int .i64 (runV l ks ns n).2.2.1, .int .i64 (runV l ks ns n).2.2.2], .slice x.1 n x.2]) ∧ Below w.heap.size w w' ∧ w'.ownsRow w.heap.size 3 1 (.slice x.1 n x.2) n (outs (resV l ks ns) n) := by
  refine (run_any _ _ _ _ a1 n c1 ks ns w ha hks hn).mono ?_
  rintro e w' ⟨v, rfl, hb, ho⟩
  obtain ⟨a, c, rfl, _⟩ := own_ints ho
  exact ⟨(a, c), rfl, hb, own_lower ho (by omega)⟩
theorem rrun_open (l : L4) (a1 : Option Addr) (n c1 : Nat) (ks : Nat → Nat) (ns : Nat → Int) (w : World) (ha : Acts w a1 n ks ns) (hks : ∀ i, ks i ≤ 255) (hn : n ≤ 1000) :
    Calls Try.prog 11 #[.agg #[.int .i64 l.1, .int .i64 l.2.1, .int .i64 l.2.2.1, .int .i64 l.2.2.2], .slice a1 n c1] w fun e w' => ∃ x : Option Addr × Nat, e = .returned (.tuple #[.agg #[.int .i64 (runV l ks ns n).1, .int .i64 (runV l ks ns n).2.1, .int .i64 (runV l ks ns n).2.2.1, .int .i64 (runV l ks ns n).2.2.2], .slice x.1 n x.2]) ∧ Below w.heap.size w w' ∧ w'.ownsRow w.heap.size 3 1 (.slice x.1 n x.2) n (outs (resV l ks ns) n) := by
  refine (rrun_any _ _ _ _ a1 n c1 ks ns w ha hks hn).mono ?_
  rintro e w' ⟨v, rfl, hb, ho⟩
  obtain ⟨a, c, rfl, _⟩ := own_ints ho
  exact ⟨(a, c), rfl, hb, own_lower ho (by omega)⟩

theorem rfree_any (a b c d : Int) (w : World) :
    Calls Try.prog 14 #[.agg #[.int .i64 a, .int .i64 b, .int .i64 c, .int .i64 d]] w fun e w' => e = .returned (.int .i64 (freeV a b c d)) ∧ Below w.heap.size w w' := by
  unfold freeV
  by_cases h : okL a b c d
  · rw [if_pos h]; exact rfree_yes h w
  · rw [if_neg h]; exact rfree_no h w

def led26' (l : L4) : Obj := .cells #[.int .i64 l.1, .int .i64 l.2.1, .int .i64 l.2.2.1, .int .i64 l.2.2.2] 26 (0, 0)

set_option maxRecDepth 100000 in
set_option maxHeartbeats 4000000 in
theorem runs_any (l : L4) (aa : Option Addr) (n c1 : Nat) (ks : Nat → Nat) (ns : Nat → Int) (m : Int) (w : World) (ha : Acts w aa n ks ns) (hks : ∀ i, ks i ≤ 255) (hn : n ≤ 60) :
    Calls Try.prog 3 #[.agg #[.int .i64 l.1, .int .i64 l.2.1, .int .i64 l.2.2.1, .int .i64 l.2.2.2], .slice aa n c1, .int .i64 m] w fun e w' => e = .returned (.bool true) ∧ Below w.heap.size w w' := by
  have HA := Lib.hid ha
  have HK := Lib.hid hks
  have HW := Lib.hid (new_any m)
  have HV := Lib.hid (rnew_any m)
  clear ha hks
  generalize newV m = nv at *
  obtain ⟨x0, x1, x2, x3⟩ := l
  obtain ⟨⟨y0, y1, y2, y3⟩, y4⟩ := nv
  dsimp only at *
  have n60 : ¬ ((n : Int) > 60) := by omega
  go_enter Try.func3, Try.ntmps3
  go_wp2_with (first
    | ((with_reducible refine (HW.out _).mono ?_); rintro e w1 ⟨rfl, hb⟩;
        have h3 := blk_grow hb (blk_new rfl); have B1 := bt (bta (Below.refl _ _) _) hb; generalize hp3 : w.heap.size = p3 at h3 ⊢; obtain ⟨a0, a1, a2, a3, a4, a5, a6, a7, a8⟩ := cells4 h3; clear hb)
    | ((with_reducible refine (HV.out _).mono ?_); rintro e w2 ⟨rfl, hb⟩; clear a0 a1 a2 a3 a4 a5 a6 a7 a8;
        replace h3 := blk_grow hb (blk_old h3); have h7 := blk_grow hb (blk_new rfl); have B2 := bt (bta B1 _) hb; generalize hp7 : w1.heap.size = p7 at *; obtain ⟨a0, a1, a2, a3, a4, a5, a6, a7, a8⟩ := cells4 h3;  obtain ⟨b0, b1, b2, b3, b4, b5, b6, b7, b8⟩ := cells4 h7; clear hb B1 hp7))
  replace h3 := blk_old (o := .cells #[.int .i64 y0, .int .i64 y1, .int .i64 y2, .int .i64 y3] 23) h3
  replace h7 := blk_old (o := .cells #[.int .i64 y0, .int .i64 y1, .int .i64 y2, .int .i64 y3] 23) h7
  have h9 := blk_new (w := w2) (o := .cells #[.int .i64 y0, .int .i64 y1, .int .i64 y2, .int .i64 y3] 23) rfl
  have B3 := bta B2 (.cells #[.int .i64 y0, .int .i64 y1, .int .i64 y2, .int .i64 y3] 23)
  generalize hp9 : w2.heap.size = p9 at h9 ⊢
  generalize w2.alloc (.cells #[.int .i64 y0, .int .i64 y1, .int .i64 y2, .int .i64 y3] 23) = w3 at *
  clear B2 hp9 a0 a1 a2 a3 a4 a5 a6 a7 a8 b0 b1 b2 b3 b4 b5 b6 b7 b8 w1 w2
  obtain ⟨a0, a1, a2, a3, a4, a5, a6, a7, a8⟩ := cells4 h3
  have HA3 := Lib.hid (HA.out.below B3)
  have HO : ∀ W, Acts W aa n ks ns → _ := fun W h => own_open aa n c1 ks ns W h (by omega)
  have HO := Lib.hid HO
  have HR := fun (x : Option Addr × Nat) W (h : Acts W x.1 n ks ns) => run_open (x0, x1, x2, x3) x.1 n x.2 ks ns W h HK.out (by omega)
  have HR := Lib.hid HR
  have HP := fun W (h : Acts W aa n ks ns) => rrun_open (x0, x1, x2, x3) aa n c1 ks ns W h HK.out (by omega)
  have HP := Lib.hid HP
  generalize runV (x0, x1, x2, x3) ks ns n = L' at *
  generalize resV (x0, x1, x2, x3) ks ns = f at *
  obtain ⟨z0, z1, z2, z3⟩ := L'
  dsimp only at *
  refine wp_open (X := Option Addr × Nat) 10 [⟨7, 11, fun b => .pointer (some ⟨b, 0, none⟩), led26' (0, 0, 0, 0), some 8, led26' (z0, z1, z2, z3)⟩]
    [⟨2, fun x => .slice x.1 n x.2, fun x W => W.ownsRow 0 64 2 (.slice x.1 n x.2) n (actsL ks ns n)⟩,
     ⟨3, fun x => .tuple #[.agg #[.int .i64 z0, .int .i64 z1, .int .i64 z2, .int .i64 z3], .slice x.1 n x.2], fun x W => W.ownsRow 0 3 1 (.slice x.1 n x.2) n (outs f n)⟩]
    (by kernel_rfl) (by kernel_rfl) (by kernel_rfl) ?_ ?_ ?_ (tail_end (by kernel_rfl)) (fun vs => ?_)
  · simp
  · simp only [List.mem_cons, List.mem_nil_iff, or_false]
    rintro e (rfl | rfl) x w' w'' _ h hb
    · exact own_below h hb
    · exact own_below h hb
  · simp only [List.mem_cons, List.mem_nil_iff, or_false]
    rintro e (rfl | rfl) y rfl x w' w'' b _ h hb ht
    · exact own_turned h hb (by decide) ht
    · exact own_turned h hb (by decide) ht
  simp only [List.take_succ_cons, List.take_zero]
  repeat (refine openLex_plain (by rfl) (by rfl) (by rfl) (fun K hK => ?_); go_simp; refine hK _ ?_; clear hK K)
  refine openLex_call _ rfl rfl rfl rfl (fun y _ => ?_) ?_
  · go_simp
    refine (HO.out _ (HA3.out.below (over_below _ _))).mono ?_
    rintro e w' ⟨x, rfl, hb, ho⟩
    exact ⟨x.1, x.2, rfl, hb, own_lower ho (Nat.zero_le _)⟩
  refine openLex_call _ rfl rfl rfl rfl (fun y hk => ?_) ?_
  · have hk := hk _ (List.mem_cons_self ..) (List.contains_iff_mem.1 (by kernel_rfl))
    obtain ⟨a, c, hv, hacts⟩ := own_acts hk
    go_simp
    refine (HR.out (a, c) _ hacts).mono ?_
    rintro e w' ⟨x, rfl, hb, ho⟩
    exact ⟨x.1, x.2, rfl, hb, own_lower ho (Nat.zero_le _)⟩
  repeat (refine openLex_plain (by rfl) (by rfl) (by rfl) (fun K hK => ?_); go_simp; refine hK _ ?_; clear hK K)
  refine openLex_new _ rfl rfl rfl (fun y => by go_simp; rfl) ?_
  refine openLex_fill _ rfl rfl rfl rfl (fun y b hb => ?_) ?_
  · unfold led26' at hb
    obtain ⟨e0, e1, e2, e3, _, _, _, _, _⟩ := cells4 hb
    have e4 := blk_free hb 0
    have e5 := blk_free hb 1
    have e6 := blk_free hb 2
    have e7 := blk_free hb 3
    refine ⟨_, ?_, ((((Turned.refl hb).setCell 0 _).setCell 1 _).setCell 2 _).setCell 3 _⟩
    go_simp
  repeat (refine openLex_plain (by rfl) (by rfl) (by rfl) (fun K hK => ?_); go_simp; refine hK _ ?_; clear hK K)
  refine openLex_nil ?_
  intro w4 β hb4 hβ _ hks4
  have hk2 := hks4 _ (List.mem_cons_of_mem _ (List.mem_cons_self ..))
  have h11 := (hβ _ (List.mem_cons_self ..)).2
  obtain ⟨s1, s2, hs, hI⟩ := own_ints hk2
  have h11 : w4.heap[β 7]? = some (.cells #[.int .i64 z0, .int .i64 z1, .int .i64 z2, .int .i64 z3] 26 (0, 0)) := h11
  have hI : Ints w4 (vs 3).1 n f := by
    injection hs with e1
    rw [e1]
    exact hI
  clear hs
  simp only [putAll]
  generalize β 7 = p11 at *
  generalize (vs 3).1 = r1 at *
  generalize (vs 3).2 = r2 at *
  have B4 := bt B3 hb4
  replace h3 := blk_grow hb4 h3
  replace h7 := blk_grow hb4 h7
  replace h9 := blk_grow hb4 h9
  have HI4 := Lib.hid hI
  have HA4 := Lib.hid (HA3.out.below hb4)
  clear a0 a1 a2 a3 a4 a5 a6 a7 a8 hI hk2 hks4 hβ B3 HA3 HA hb4 HW HV HR HO HK
  obtain ⟨a0, a1, a2, a3, a4, a5, a6, a7, a8⟩ := cells4 h3
  go_wp2_with ((with_reducible refine (HP.out _ HA4.out).mono ?_); refine unhalt ?_)
  unfold Halted
  rintro e w5 ⟨x, rfl, hb, ho⟩
  replace h3 := blk_grow hb h3
  replace h7 := blk_grow hb h7
  replace h9 := blk_grow hb h9
  replace h11 := blk_grow hb h11
  have B5 := bt B4 hb
  have HI5 := Lib.hid (HI4.out.below hb)
  obtain ⟨t1, t2⟩ := x
  obtain ⟨t3, t4, ht, hJ⟩ := own_ints ho
  have hJ5 : Ints w5 t1 n f := by
    injection ht with e1
    have e1 : t1 = t3 := e1
    rw [e1]
    exact hJ
  have HJ5 := Lib.hid hJ5
  clear hb B4 ho hJ ht hJ5 a0 a1 a2 a3 a4 a5 a6 a7 a8 HI4 HA4 HP
  dsimp only
  go_wp2
  replace h3 := blk_old (o := .cells #[.int .i64 z0, .int .i64 z1, .int .i64 z2, .int .i64 z3] 23) h3
  replace h7 := blk_old (o := .cells #[.int .i64 z0, .int .i64 z1, .int .i64 z2, .int .i64 z3] 23) h7
  replace h9 := blk_old (o := .cells #[.int .i64 z0, .int .i64 z1, .int .i64 z2, .int .i64 z3] 23) h9
  replace h11 := blk_old (o := .cells #[.int .i64 z0, .int .i64 z1, .int .i64 z2, .int .i64 z3] 23) h11
  have h13 := blk_new (w := w5) (o := .cells #[.int .i64 z0, .int .i64 z1, .int .i64 z2, .int .i64 z3] 23) rfl
  have B6 := bta B5 (.cells #[.int .i64 z0, .int .i64 z1, .int .i64 z2, .int .i64 z3] 23)
  have HI6 := Lib.hid (HI5.out.below ((Below.refl _ _).alloc (Nat.le_refl _) (.cells #[.int .i64 z0, .int .i64 z1, .int .i64 z2, .int .i64 z3] 23)))
  have HJ6 := Lib.hid (HJ5.out.below ((Below.refl _ _).alloc (Nat.le_refl _) (.cells #[.int .i64 z0, .int .i64 z1, .int .i64 z2, .int .i64 z3] 23)))
  clear HI5 HJ5 B5
  generalize hp13 : w5.heap.size = p13 at h13 ⊢
  generalize w5.alloc (.cells #[.int .i64 z0, .int .i64 z1, .int .i64 z2, .int .i64 z3] 23) = w6 at *
  clear hp13
  obtain ⟨a0, a1, a2, a3, a4, a5, a6, a7, a8⟩ := cells4 h7
  obtain ⟨b0, b1, b2, b3, b4, b5, b6, b7, b8⟩ := cells4 h9
  obtain ⟨c0, c1, c2, c3, c4, c5, c6, c7, c8⟩ := cells4 h11
  obtain ⟨d0, d1, d2, d3, d4, d5, d6, d7, d8⟩ := cells4 h13
  refine wp_soft0 33 (by kernel_rfl) (by kernel_rfl) (tail_end (by kernel_rfl)) ?_
  simp only [List.take_succ_cons, List.take_zero]
  repeat (refine softLex_step (by rfl) (by rfl) (fun K hK => ?_); go_simp; first | (refine hK _ ?_; clear hK K) | (apply Exists.intro; refine ⟨fun x => ?_, hK _ ?_⟩; (first | (with_reducible exact same_any _ _ n _ _ f _ (HI6.out.below (over_below _ _)) (HJ6.out.below (over_below _ _)) (by omega)) | (with_reducible exact free_any _ _ _ _ _) | (with_reducible exact rfree_any _ _ _ _ _) | (with_reducible exact check_any _ _ _ _ _) | (with_reducible exact rcheck_any _ _ _ _ _)); clear hK K))
  refine softLex_nil ?_
  intro w7 hb7
  replace h11 := blk_grow hb7 h11
  replace h13 := blk_grow hb7 h13
  have B7 := bt B6 hb7
  have S1 := Lib.hid (spend_any z0 z1 z2 z3 m)
  have S2 := Lib.hid (rspend_any z0 z1 z2 z3 m)
  have R1 := Lib.hid (reach_any z0 z1 z2 z3 m)
  have R2 := Lib.hid (rreach_any z0 z1 z2 z3 m)
  have E1 := Lib.hid (eat_any z0 z1 z2 z3 m)
  have E2 := Lib.hid (reat_any z0 z1 z2 z3 m)
  generalize spendV (z0, z1, z2, z3) m = sv at *
  generalize reachV (z0, z1, z2, z3) m = rv at *
  generalize eatV (z0, z1, z2, z3) m = ev at *
  obtain ⟨⟨s0, s1, s2, s3⟩, s4⟩ := sv
  obtain ⟨⟨v0, v1, v2, v3⟩, v4, v5⟩ := rv
  obtain ⟨e0, e1, e2, e3⟩ := ev
  have G1 := Lib.hid (grant_any e0 e1 e2 e3)
  have G2 := Lib.hid (rgrant_any e0 e1 e2 e3)
  generalize grantV (e0, e1, e2, e3) = gv at *
  obtain ⟨⟨g0, g1, g2, g3⟩, g4⟩ := gv
  dsimp only at *
  clear hb7 h3 h7 h9 B6 HI6 HJ6 a0 a1 a2 a3 a4 a5 a6 a7 a8 b0 b1 b2 b3 b4 b5 b6 b7 b8 c0 c1 c2 c3 c4 c5 c6 c7 c8 d0 d1 d2 d3 d4 d5 d6 d7 d8
  obtain ⟨c0, c1, c2, c3, c4, c5, c6, c7, c8⟩ := cells4 h11
  obtain ⟨d0, d1, d2, d3, d4, d5, d6, d7, d8⟩ := cells4 h13
  go_wp2_with (first
    | ((with_reducible refine (S1.out _).mono ?_); rintro e w8 ⟨rfl, hb⟩; clear c0 c1 c2 c3 c4 c5 c6 c7 c8 d0 d1 d2 d3 d4 d5 d6 d7 d8; replace h11 := blk_grow hb h11; replace h13 := blk_grow hb h13; have B8 := bt B7 hb; clear hb B7; obtain ⟨c0, c1, c2, c3, c4, c5, c6, c7, c8⟩ := cells4 h11; obtain ⟨d0, d1, d2, d3, d4, d5, d6, d7, d8⟩ := cells4 h13)
    | ((with_reducible refine (S2.out _).mono ?_); rintro e w9 ⟨rfl, hb⟩; clear c0 c1 c2 c3 c4 c5 c6 c7 c8 d0 d1 d2 d3 d4 d5 d6 d7 d8; replace h11 := blk_grow hb (blk_old h11); replace h13 := blk_grow hb (blk_old h13); have h15 := blk_grow hb (blk_new rfl); have B9 := bt (bta B8 _) hb; clear hb B8; generalize w8.heap.size = p15 at *; obtain ⟨c0, c1, c2, c3, c4, c5, c6, c7, c8⟩ := cells4 h11; obtain ⟨d0, d1, d2, d3, d4, d5, d6, d7, d8⟩ := cells4 h13)
    | ((with_reducible refine (R1.out _).mono ?_); rintro e w10 ⟨rfl, hb⟩; clear c0 c1 c2 c3 c4 c5 c6 c7 c8 d0 d1 d2 d3 d4 d5 d6 d7 d8; replace h11 := blk_grow hb (blk_old h11); replace h13 := blk_grow hb (blk_old h13); replace h15 := blk_grow hb (blk_old h15); have h17 := blk_grow hb (blk_new rfl); have B10 := bt (bta B9 _) hb; clear hb B9; generalize w9.heap.size = p17 at *; obtain ⟨c0, c1, c2, c3, c4, c5, c6, c7, c8⟩ := cells4 h11; obtain ⟨d0, d1, d2, d3, d4, d5, d6, d7, d8⟩ := cells4 h13)
    | ((with_reducible refine (R2.out _).mono ?_); rintro e w11 ⟨rfl, hb⟩; clear c0 c1 c2 c3 c4 c5 c6 c7 c8 d0 d1 d2 d3 d4 d5 d6 d7 d8; replace h11 := blk_grow hb (blk_old h11); replace h13 := blk_grow hb (blk_old h13); replace h15 := blk_grow hb (blk_old h15); replace h17 := blk_grow hb (blk_old h17); have h19 := blk_grow hb (blk_new rfl); have B11 := bt (bta B10 _) hb; clear hb B10; generalize w10.heap.size = p19 at *; obtain ⟨c0, c1, c2, c3, c4, c5, c6, c7, c8⟩ := cells4 h11; obtain ⟨d0, d1, d2, d3, d4, d5, d6, d7, d8⟩ := cells4 h13)
    | ((with_reducible refine (E1.out _).mono ?_); rintro e w12 ⟨rfl, hb⟩; clear c0 c1 c2 c3 c4 c5 c6 c7 c8 d0 d1 d2 d3 d4 d5 d6 d7 d8; replace h11 := blk_grow hb (blk_old h11); replace h13 := blk_grow hb (blk_old h13); replace h15 := blk_grow hb (blk_old h15); replace h17 := blk_grow hb (blk_old h17); replace h19 := blk_grow hb (blk_old h19); have h21 := blk_grow hb (blk_new rfl); have B12 := bt (bta B11 _) hb; clear hb B11; generalize w11.heap.size = p21 at *; obtain ⟨c0, c1, c2, c3, c4, c5, c6, c7, c8⟩ := cells4 h11; obtain ⟨d0, d1, d2, d3, d4, d5, d6, d7, d8⟩ := cells4 h13)
    | ((with_reducible refine (G1.out _).mono ?_); rintro e w13 ⟨rfl, hb⟩; clear c0 c1 c2 c3 c4 c5 c6 c7 c8 d0 d1 d2 d3 d4 d5 d6 d7 d8; replace h11 := blk_grow hb h11; replace h13 := blk_grow hb h13; replace h15 := blk_grow hb h15; replace h17 := blk_grow hb h17; replace h19 := blk_grow hb h19; replace h21 := blk_grow hb h21; have B13 := bt B12 hb; clear hb B12; obtain ⟨c0, c1, c2, c3, c4, c5, c6, c7, c8⟩ := cells4 h11; obtain ⟨d0, d1, d2, d3, d4, d5, d6, d7, d8⟩ := cells4 h13)
    | ((with_reducible refine (E2.out _).mono ?_); rintro e w14 ⟨rfl, hb⟩; clear c0 c1 c2 c3 c4 c5 c6 c7 c8 d0 d1 d2 d3 d4 d5 d6 d7 d8; replace h11 := blk_grow hb (blk_old h11); replace h13 := blk_grow hb (blk_old h13); replace h15 := blk_grow hb (blk_old h15); replace h17 := blk_grow hb (blk_old h17); replace h19 := blk_grow hb (blk_old h19); replace h21 := blk_grow hb (blk_old h21); have h23 := blk_grow hb (blk_new rfl); have B14 := bt (bta B13 _) hb; clear hb B13; generalize w13.heap.size = p23 at *; obtain ⟨c0, c1, c2, c3, c4, c5, c6, c7, c8⟩ := cells4 h11; obtain ⟨d0, d1, d2, d3, d4, d5, d6, d7, d8⟩ := cells4 h13)
    | ((with_reducible refine (G2.out _).mono ?_); rintro e w15 ⟨rfl, hb⟩; clear c0 c1 c2 c3 c4 c5 c6 c7 c8 d0 d1 d2 d3 d4 d5 d6 d7 d8; replace h11 := blk_grow hb h11; replace h13 := blk_grow hb h13; replace h15 := blk_grow hb h15; replace h17 := blk_grow hb h17; replace h19 := blk_grow hb h19; replace h21 := blk_grow hb h21; replace h23 := blk_grow hb h23; have B15 := bt B14 hb; clear hb B14; obtain ⟨c0, c1, c2, c3, c4, c5, c6, c7, c8⟩ := cells4 h15; obtain ⟨d0, d1, d2, d3, d4, d5, d6, d7, d8⟩ := cells4 h17; obtain ⟨i0, i1, i2, i3, i4, i5, i6, i7, i8⟩ := cells4 h19; obtain ⟨j0, j1, j2, j3, j4, j5, j6, j7, j8⟩ := cells4 h21; obtain ⟨k0, k1, k2, k3, k4, k5, k6, k7, k8⟩ := cells4 h23)
    | ((with_reducible refine (awake_any _).mono ?_); rintro e w16 ⟨rfl, hb⟩; have B16 := bt (bta B15 _) hb; clear hb))
  go_returns
  exact ⟨rfl, B16⟩
end Go.Proofs.Ytfdikbbojddbmaa
