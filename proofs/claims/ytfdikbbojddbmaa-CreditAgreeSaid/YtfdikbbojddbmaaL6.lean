/- The law CreditAgree: true, whatever the input, where at most 80 deeds come in. -/
import Derived.Test.YtfdikbbojddbmaaA
import Derived.Test.YtfdikbbojddbmaaL5
import Derived.Test.YtfdikbbojddbmaaM
namespace Go.Proofs.Ytfdikbbojddbmaa
open Go.RowKit
attribute [local go_sem] cell_over frozen_over lt_over le_over ne_over over_ne cell_set_same softAt softUpon

/-- A row of deeds. -/
def Deeds (w : World) (a : Option Addr) (n : Nat) (ks es : Nat → Nat) : Prop :=
  ∀ i, i < n → ∃ b o, a = some ⟨b, o, none⟩ ∧ w.cell? ⟨b, o + i * 2, none⟩ = some (.int .u8 (ks i)) ∧ w.cell? ⟨b, o + i * 2 + 1, none⟩ = some (.int .u8 (es i))

set_option maxRecDepth 100000 in
theorem agree_many (g : Int) (aa : Option Addr) (n c1 : Nat) (w : World) (hn : 80 < n) :
    Calls Try.prog 4 #[.int .u8 g, .slice aa n c1] w fun e w' => e = .returned (.bool true) ∧ Below w.heap.size w w' := by
  have n80 : (80 : Int) < (n : Int) := by omega
  go_enter Try.func4, Try.ntmps4
  go_wp2_with ((with_reducible refine (awake_any _).mono ?_); rintro ex w2 ⟨rfl, hb2⟩)
  go_returns
  exact ⟨rfl, hb2⟩

theorem agree_meet {w w' : World} {p6 p8 n k : Nat} {W L U R : Int} (hlt : k < n) (h1 : Below w.heap.size w w') (h2 : w'.heap[p6]? = some (.cells #[.int .i64 W, .int .i64 L, .int .i64 U, .int .i64 0] 26 (0, 0))) (h3 : w'.heap[p8]? = some (.cells #[.int .i64 W, .int .i64 L, .int .i64 U, .int .i64 R] 26 (0, 0))) (hi : Inv W L U R (k + 1)) :
    (∃ (k' : Nat) (L U R : Int), k' ≤ n ∧ Value.int .i64 ((k : Int) + 1) = .int .i64 (k' : Int) ∧ Below w.heap.size w w'.drew ∧ w'.drew.heap[p6]? = some (led26 (W, L, U, 0)) ∧ w'.drew.heap[p8]? = some (led26 (W, L, U, R)) ∧ Inv W L U R k') ∧ n - (intOf (.int .i64 ((k : Int) + 1))).toNat < n - (intOf (.int .i64 (k : Int))).toNat :=
  ⟨⟨k + 1, L, U, R, hlt, rfl, btd h1, h2, h3, hi⟩, by simp [intOf]; omega⟩

set_option maxRecDepth 100000 in
set_option maxHeartbeats 8000000 in
theorem agree_any (g : Int) (aa : Option Addr) (n c1 : Nat) (ks es : Nat → Nat) (w : World) (hg : 0 ≤ g ∧ g ≤ 255) (ha : Deeds w aa n ks es) (hks : ∀ i, ks i ≤ 255) (hes : ∀ i, es i ≤ 255) (hn : n ≤ 80) :
    Calls Try.prog 4 #[.int .u8 g, .slice aa n c1] w fun e w' => e = .returned (.bool true) ∧ Below w.heap.size w w' := by
  obtain ⟨W, hW⟩ : ∃ W, W = 1 + g := ⟨_, rfl⟩
  have W1 : 1 ≤ W := by omega
  have W2 : W ≤ 256 := by omega
  have N := new_any W
  rw [new_w (by omega) (by omega), hW] at N
  replace N := Lib.hid N
  have HD := Lib.hid ha
  have HK := Lib.hid hks
  have HE := Lib.hid hes
  clear ha hks hes
  obtain ⟨g0, g1⟩ := hg
  have n80 : ¬ (n : Int) > 80 := by omega
  have n1 : IntKind.i64.wrap g = g := IntWalk.i64_in _ (by omega)
  have n2 : IntKind.i64.wrap (1 + g) = 1 + g := IntWalk.i64_in _ (by omega)
  have HW := Lib.hid hW
  clear hW
  go_enter Try.func4, Try.ntmps4
  go_wp2_with (first
    | ((with_reducible refine (N.out w).mono ?_); rintro e w1 ⟨rfl, B1⟩; rw [← HW.out])
    | (rw [HW.out]; (with_reducible refine (N.out _).mono ?_); rintro e w2 ⟨rfl, hb⟩; rw [← HW.out] at hb ⊢; have h6 := blk_grow hb (blk_new rfl); have B2 := bt (bta B1 _) hb; have s6 := B1.size; clear hb B1; generalize w1.heap.size = p6 at *))
  have q6 := blk_lt h6
  replace h6 := blk_old (o := .cells #[.int .i64 W, .int .i64 W, .int .i64 0, .int .i64 0] 26) h6
  have h8 := blk_new (w := w2) (o := .cells #[.int .i64 W, .int .i64 W, .int .i64 0, .int .i64 0] 26) rfl
  have B3 := bta B2 (.cells #[.int .i64 W, .int .i64 W, .int .i64 0, .int .i64 0] 26)
  have s8 := B2.size
  generalize w2.heap.size = p8 at *
  generalize w2.alloc (.cells #[.int .i64 W, .int .i64 W, .int .i64 0, .int .i64 0] 26) = w3 at *
  clear B2
  go_loopw [10] (fun i wr => ∃ (k : Nat) (L U R : Int), k ≤ n ∧ i = .int .i64 (k : Nat) ∧ Below w.heap.size w wr ∧ wr.heap[p6]? = some (led26 (W, L, U, 0)) ∧ wr.heap[p8]? = some (led26 (W, L, U, R)) ∧ Inv W L U R k)
    (fun i _ => n - (intOf i).toNat)
  case atStart => exact ⟨0, W, 0, 0, Nat.zero_le _, rfl, B3, h6, h8, ⟨W1, W2, by omega, by omega, by omega, by omega, by omega, by omega⟩⟩
  case round =>
    obtain ⟨k, L, U, R, hk, rfl, hb, h6, h8, hinv⟩ := hrel
    by_cases hlt : k < n
    · obtain ⟨bb, oo, rfl, e0, e1⟩ := HD.out k hlt
      have q0 := cell_below hb e0
      have q1 := cell_below hb e1
      have lq := World.block_lt_of_cell? _ _ q0
      have hN := HK.out k
      have hE := HE.out k
      clear e0 e1
      generalize hNN : ((ks k : Nat) : Int) = NN at *
      generalize hEE : ((es k : Nat) : Int) = EE at *
      have a1 : 0 ≤ NN := by omega
      have a2 : NN ≤ 255 := by omega
      have a3 : 0 ≤ EE := by omega
      have a4 : EE ≤ 255 := by omega
      clear hNN hEE hN hE
      obtain ⟨m, hm⟩ : ∃ m, m = if L - U < NN then L - U else NN := ⟨_, rfl⟩
      obtain ⟨R', L', G, hd⟩ := deed_one hinv (by omega) a1 a2 a3 m hm
      obtain ⟨n0, n1, hV, hfree, hspend, hreach, heat, hgrant, hways, hinv'⟩ := hd
      have HI := Lib.hid hinv'
      have F := free_any W L U 0
      rw [hfree] at F
      have S := spend_any W L U 0 m
      rw [hspend] at S
      have Rc := reach_any W L U R (U + m)
      rw [hreach] at Rc
      have Ea := eat_any W L (U + m) R EE
      rw [heat] at Ea
      have Gr := grant_any W L (U + m) R'
      rw [hgrant] at Gr
      have K1 := check_yes hinv'.ok.2
      have K2 := check_yes hinv'.ok.1
      have HW2 : (G = 0 ∧ L' = L) ∨ (1 ≤ G ∧ L' = L + G ∧ ∀ w, Calls Try.prog 25 #[.agg #[.int .i64 W, .int .i64 L, .int .i64 (U + m), .int .i64 0], .int .i64 G] w fun e w' => e = .returned (.tuple #[.agg #[.int .i64 W, .int .i64 L', .int .i64 (U + m), .int .i64 0], .bool true]) ∧ Below w.heap.size w w') := by
        rcases hways with h | ⟨h1, h2, h3⟩
        · exact .inl h
        · refine .inr ⟨h1, h2, fun w => ?_⟩
          have := given_any W L (U + m) 0 G w
          rw [h3] at this
          exact this
      replace HW2 := Lib.hid HW2
      obtain ⟨i1, i2, i3, i4, i5, i6, i7, i8⟩ := hinv
      obtain ⟨_, _, j3, j4, j5, j6, j7, j8⟩ := hinv'
      have vL : U + m ≤ L := by omega
      clear hfree hspend hreach heat hgrant hways hV
      generalize U + m = V at *
      replace F := Lib.hid F
      replace S := Lib.hid S
      replace Rc := Lib.hid Rc
      replace Ea := Lib.hid Ea
      replace Gr := Lib.hid Gr
      replace K1 := Lib.hid K1
      replace K2 := Lib.hid K2
      have HM := Lib.hid hm
      clear hm
      have k0 : (0 : Int) ≤ (k : Int) := by omega
      have k1 : (k : Int) < (n : Int) := by omega
      have k2 : IntKind.i64.wrap (k : Int) = k := IntWalk.i64_in _ (by omega)
      have x1 : IntKind.i64.wrap NN = NN := IntWalk.i64_in _ (by omega)
      have x2 : IntKind.i64.wrap EE = EE := IntWalk.i64_in _ (by omega)
      have v1 : 0 ≤ V := by omega
      have v2 : V ≤ 20655 := by omega
      have v3 : IntKind.i64.wrap (V - R) = V - R := IntWalk.i64_in _ (by omega)
      have v4 : ¬ W < V - R := by omega
      have v5 : IntKind.i64.wrap (R' + W) = R' + W := IntWalk.i64_in _ (by omega)
      have v6 : ¬ R' + W < L' := by omega
      unfold led26 at h6 h8
      dsimp only at h6 h8
      obtain ⟨a0, a1, a2, a3, a4, a5, a6, a7, a8⟩ := cells4 h6
      go_wp2
      refine wp_soft0 10 (by kernel_rfl) (by kernel_rfl) (tail_end (by kernel_rfl)) ?_
      simp only [List.take_succ_cons, List.take_zero]
      repeat (refine softLex_step (by rfl) (by rfl) (fun K hK => ?_); go_simp; first | (refine hK _ ?_; clear hK K) | (apply Exists.intro; refine ⟨fun x => ?_, hK _ ?_⟩; (first | (with_reducible exact F.out _)); clear hK K))
      refine softLex_nil ?_
      intro w4 hb4
      rw [← HM.out]
      replace h6 := blk_grow hb4 h6
      replace h8 := blk_grow hb4 h8
      replace q0 := cell_below hb4 q0
      replace q1 := cell_below hb4 q1
      replace hb := bt hb hb4
      have B4 := hb
      clear hb hb4 F a0 a1 a2 a3 a4 a5 a6 a7 a8
      obtain ⟨a0, a1, a2, a3, a4, a5, a6, a7, a8⟩ := cells4 h6
      obtain ⟨b0, b1, b2, b3, b4, b5, b6, b7, b8⟩ := cells4 h8
      go_wp2_with (first
        | ((with_reducible refine (S.out _).mono ?_); rintro e w5 ⟨rfl, hb⟩; replace h6 := blk_grow hb h6; replace h8 := blk_grow hb h8; replace q0 := cell_below hb q0; replace q1 := cell_below hb q1; have B5 := bt B4 hb; clear hb B4 a0 a1 a2 a3 a4 a5 a6 a7 a8 b0 b1 b2 b3 b4 b5 b6 b7 b8; obtain ⟨a0, a1, a2, a3, a4, a5, a6, a7, a8⟩ := cells4 h6; obtain ⟨b0, b1, b2, b3, b4, b5, b6, b7, b8⟩ := cells4 h8)
        | ((with_reducible refine (Rc.out _).mono ?_); rintro e w6 ⟨rfl, hb⟩; have y8 := blk_lt h8; have y6 := blk_lt h6; have s12 := B5.size; replace h6 := blk_grow hb (blk_old h6); replace h8 := blk_grow hb (blk_old h8); have h12 := blk_grow hb (blk_new rfl); replace q0 := cell_below hb (cell_below ((Below.refl _ _).alloc (Nat.le_refl _) _) q0); replace q1 := cell_below hb (cell_below ((Below.refl _ _).alloc (Nat.le_refl _) _) q1); have B6 := bt (bta B5 _) hb; clear hb B5 a0 a1 a2 a3 a4 a5 a6 a7 a8 b0 b1 b2 b3 b4 b5 b6 b7 b8; generalize w5.heap.size = p12 at *; obtain ⟨a0, a1, a2, a3, a4, a5, a6, a7, a8⟩ := cells4 h6; obtain ⟨b0, b1, b2, b3, b4, b5, b6, b7, b8⟩ := cells4 h8; obtain ⟨c0, c1, c2, c3, c4, c5, c6, c7, c8⟩ := cells4 h12))
      replace h6 := blk_old (o := .cells #[.int .i64 W, .int .i64 L, .int .i64 V, .int .i64 R] 26) h6
      replace h8 := blk_old (o := .cells #[.int .i64 W, .int .i64 L, .int .i64 V, .int .i64 R] 26) h8
      replace h12 := blk_old (o := .cells #[.int .i64 W, .int .i64 L, .int .i64 V, .int .i64 R] 26) h12
      replace q1 := cell_below ((Below.refl w6.heap.size w6).alloc (Nat.le_refl _) (.cells #[.int .i64 W, .int .i64 L, .int .i64 V, .int .i64 R] 26)) q1
      have h14 := blk_new (w := w6) (o := .cells #[.int .i64 W, .int .i64 L, .int .i64 V, .int .i64 R] 26) rfl
      have B7 := bta B6 (.cells #[.int .i64 W, .int .i64 L, .int .i64 V, .int .i64 R] 26)
      generalize w6.heap.size = p14 at *
      generalize w6.alloc (.cells #[.int .i64 W, .int .i64 L, .int .i64 V, .int .i64 R] 26) = w7 at *
      clear B6 S Rc q0 a0 a1 a2 a3 a4 a5 a6 a7 a8 b0 b1 b2 b3 b4 b5 b6 b7 b8 c0 c1 c2 c3 c4 c5 c6 c7 c8
      have lq := World.block_lt_of_cell? _ _ q1
      obtain ⟨a0, a1, a2, a3, a4, a5, a6, a7, a8⟩ := cells4 h14
      refine wp_soft1 15 ⟨12, 17, fun b => .pointer (some ⟨b, 0, none⟩), led26 (0, 0, 0, 0), some 13, led26 (W, L', V, R')⟩ (by kernel_rfl) (by kernel_rfl) (tail_end (by kernel_rfl)) ?_
      simp only [List.take_succ_cons, List.take_zero]
      repeat (first | (refine softLex_step (by rfl) (by rfl) (fun K hK => ?_); go_simp; first | (refine hK _ ?_; clear hK K) | (apply Exists.intro; refine ⟨fun x => ?_, hK _ ?_⟩; (first | (with_reducible exact Ea.out _) | (with_reducible exact Gr.out _)); clear hK K)))
      refine softLex_new _ rfl rfl rfl (fun y => by go_simp; rfl) ?_
      refine softLex_fill _ rfl rfl rfl rfl (fun y b hb => ?_) ?_
      · unfold led26 at hb
        obtain ⟨e0, e1, e2, e3, _, _, _, _, _⟩ := cells4 hb
        have e4 := blk_free hb 0
        have e5 := blk_free hb 1
        have e6 := blk_free hb 2
        have e7 := blk_free hb 3
        refine ⟨_, ?_, ((((Turned.refl hb).setCell 0 _).setCell 1 _).setCell 2 _).setCell 3 _⟩
        go_simp
      repeat (first | (refine softLex_step (by rfl) (by rfl) (fun K hK => ?_); go_simp; first | (refine hK _ ?_; clear hK K)))
      refine softLex_nil ?_
      intro w8 p17 hb hp17 h17
      have h17 : w8.heap[p17]? = some (.cells #[.int .i64 W, .int .i64 L', .int .i64 V, .int .i64 R'] 26 (0, 0)) := h17
      have z12 := blk_lt h12
      replace h6 := blk_grow hb h6; replace h8 := blk_grow hb h8; replace h12 := blk_grow hb h12; 
      have B8 := bt B7 hb
      have z1 : p12 ≠ p17 := by omega
      have z2 : p6 ≠ p12 := by omega
      have z7 : p17 ≠ p6 := by omega
      have z9 : p17 ≠ p8 := by omega
      have z10 : w.heap.size ≤ p12 := s12
      have z3 : p8 ≠ p12 := by omega
      clear hb hp17 h14 q1 lq B7 Ea Gr a0 a1 a2 a3 a4 a5 a6 a7 a8
      obtain ⟨a0, a1, a2, a3, a4, a5, a6, a7, a8⟩ := cells4 h6
      obtain ⟨b0, b1, b2, b3, b4, b5, b6, b7, b8⟩ := cells4 h8
      obtain ⟨c0, c1, c2, c3, c4, c5, c6, c7, c8⟩ := cells4 h12
      obtain ⟨d0, d1, d2, d3, d4, d5, d6, d7, d8⟩ := cells4 h17
      have f0 := blk_free h12 0
      have f1 := blk_free h12 1
      have f2 := blk_free h12 2
      have f3 := blk_free h12 3
      rcases HW2.out with ⟨rfl, rfl⟩ | ⟨hG, hL, Gi⟩
      · go_wp2_with (first
          | ((with_reducible refine (K1.out _).mono ?_); rintro e w9 ⟨rfl, hb⟩; replace h6 := blk_grow hb h6; replace h8 := blk_grow hb h8; replace h12 := blk_grow hb h12; replace h17 := blk_grow hb h17; have B9 := bt B8 hb; clear hb a0 a1 a2 a3 a4 a5 a6 a7 a8 b0 b1 b2 b3 b4 b5 b6 b7 b8 c0 c1 c2 c3 c4 c5 c6 c7 c8 d0 d1 d2 d3 d4 d5 d6 d7 d8 f0 f1 f2 f3; obtain ⟨a0, a1, a2, a3, a4, a5, a6, a7, a8⟩ := cells4 h6; obtain ⟨b0, b1, b2, b3, b4, b5, b6, b7, b8⟩ := cells4 h8; obtain ⟨c0, c1, c2, c3, c4, c5, c6, c7, c8⟩ := cells4 h12; obtain ⟨d0, d1, d2, d3, d4, d5, d6, d7, d8⟩ := cells4 h17)
          | ((with_reducible refine (K2.out _).mono ?_); rintro e w10 ⟨rfl, hb⟩; replace h6 := blk_grow hb h6; replace h8 := blk_grow hb h8; replace h12 := blk_grow hb h12; replace h17 := blk_grow hb h17; have B10 := bt B9 hb; clear hb a0 a1 a2 a3 a4 a5 a6 a7 a8 b0 b1 b2 b3 b4 b5 b6 b7 b8 c0 c1 c2 c3 c4 c5 c6 c7 c8 d0 d1 d2 d3 d4 d5 d6 d7 d8; obtain ⟨a0, a1, a2, a3, a4, a5, a6, a7, a8⟩ := cells4 h6; obtain ⟨b0, b1, b2, b3, b4, b5, b6, b7, b8⟩ := cells4 h8; obtain ⟨c0, c1, c2, c3, c4, c5, c6, c7, c8⟩ := cells4 h12; obtain ⟨d0, d1, d2, d3, d4, d5, d6, d7, d8⟩ := cells4 h17))
        clear K1 K2
        have f0 := blk_free h6 0
        have f1 := blk_free h6 1
        have f2 := blk_free h6 2
        have f3 := blk_free h6 3
        have e0 := blk_free h8 0
        have e1 := blk_free h8 1
        have e2 := blk_free h8 2
        have e3 := blk_free h8 3
        have d4 : p6 ≠ p8 := by omega
        have d5 : p8 ≠ p6 := by omega
        have d6 : p12 ≠ p6 := by omega
        have d8 : p12 ≠ p8 := by omega
        go_region
        go_wp2
        have r1 := bst4 (bst4 B10 s6 (.int .i64 W) (.int .i64 L') (.int .i64 V) (.int .i64 0)) s8 (.int .i64 W) (.int .i64 L') (.int .i64 V) (.int .i64 R')
        have r2 := far4 (set4 h6 (.int .i64 W) (.int .i64 L') (.int .i64 V) (.int .i64 0)) d4 (.int .i64 W) (.int .i64 L') (.int .i64 V) (.int .i64 R')
        have r3 := set4 (far4 h8 d5 (.int .i64 W) (.int .i64 L') (.int .i64 V) (.int .i64 0)) (.int .i64 W) (.int .i64 L') (.int .i64 V) (.int .i64 R')
        exact agree_meet hlt r1 r2 r3 HI.out
      · have hG0 : 0 < G := by omega
        replace hL := Lib.hid hL
        replace Gi := Lib.hid Gi
        go_wp2_with (first
          | ((with_reducible refine (Gi.out _).mono ?_); rintro e w9 ⟨rfl, hb⟩; replace h6 := blk_grow hb h6; replace h8 := blk_grow hb h8; replace h12 := blk_grow hb h12; replace h17 := blk_grow hb h17; replace B8 := bt B8 hb; clear hb a0 a1 a2 a3 a4 a5 a6 a7 a8 b0 b1 b2 b3 b4 b5 b6 b7 b8 c0 c1 c2 c3 c4 c5 c6 c7 c8 d0 d1 d2 d3 d4 d5 d6 d7 d8 f0 f1 f2 f3; obtain ⟨a0, a1, a2, a3, a4, a5, a6, a7, a8⟩ := cells4 h6; obtain ⟨b0, b1, b2, b3, b4, b5, b6, b7, b8⟩ := cells4 h8; obtain ⟨c0, c1, c2, c3, c4, c5, c6, c7, c8⟩ := cells4 h12; obtain ⟨d0, d1, d2, d3, d4, d5, d6, d7, d8⟩ := cells4 h17; have f0 := blk_free h12 0; have f1 := blk_free h12 1; have f2 := blk_free h12 2; have f3 := blk_free h12 3; have z11 := Ne.symm z1; have z12' := Ne.symm z2; have z13 := Ne.symm z3)
          | ((with_reducible refine (K1.out _).mono ?_); rintro e w9 ⟨rfl, hb⟩; replace h6 := blk_grow hb (far4 h6 z2 _ _ _ _); replace h8 := blk_grow hb (far4 h8 z3 _ _ _ _); replace h12 := blk_grow hb (set4 h12 _ _ _ _); replace h17 := blk_grow hb (far4 h17 (Ne.symm z1) _ _ _ _); have B9 := bt (bst4 B8 z10 _ _ _ _) hb; clear hb a0 a1 a2 a3 a4 a5 a6 a7 a8 b0 b1 b2 b3 b4 b5 b6 b7 b8 c0 c1 c2 c3 c4 c5 c6 c7 c8 d0 d1 d2 d3 d4 d5 d6 d7 d8 f0 f1 f2 f3; obtain ⟨a0, a1, a2, a3, a4, a5, a6, a7, a8⟩ := cells4 h6; obtain ⟨b0, b1, b2, b3, b4, b5, b6, b7, b8⟩ := cells4 h8; obtain ⟨c0, c1, c2, c3, c4, c5, c6, c7, c8⟩ := cells4 h12; obtain ⟨d0, d1, d2, d3, d4, d5, d6, d7, d8⟩ := cells4 h17)
          | ((with_reducible refine (K2.out _).mono ?_); rintro e w10 ⟨rfl, hb⟩; replace h6 := blk_grow hb h6; replace h8 := blk_grow hb h8; replace h12 := blk_grow hb h12; replace h17 := blk_grow hb h17; have B10 := bt B9 hb; clear hb a0 a1 a2 a3 a4 a5 a6 a7 a8 b0 b1 b2 b3 b4 b5 b6 b7 b8 c0 c1 c2 c3 c4 c5 c6 c7 c8 d0 d1 d2 d3 d4 d5 d6 d7 d8; obtain ⟨a0, a1, a2, a3, a4, a5, a6, a7, a8⟩ := cells4 h6; obtain ⟨b0, b1, b2, b3, b4, b5, b6, b7, b8⟩ := cells4 h8; obtain ⟨c0, c1, c2, c3, c4, c5, c6, c7, c8⟩ := cells4 h12; obtain ⟨d0, d1, d2, d3, d4, d5, d6, d7, d8⟩ := cells4 h17))
        clear K1 K2
        have f0 := blk_free h6 0
        have f1 := blk_free h6 1
        have f2 := blk_free h6 2
        have f3 := blk_free h6 3
        have e0 := blk_free h8 0
        have e1 := blk_free h8 1
        have e2 := blk_free h8 2
        have e3 := blk_free h8 3
        have d4 : p6 ≠ p8 := by omega
        have d5 : p8 ≠ p6 := by omega
        have d6 : p12 ≠ p6 := by omega
        have d8 : p12 ≠ p8 := by omega
        go_region
        go_wp2
        have r1 := bst4 (bst4 B10 s6 (.int .i64 W) (.int .i64 L') (.int .i64 V) (.int .i64 0)) s8 (.int .i64 W) (.int .i64 L') (.int .i64 V) (.int .i64 R')
        have r2 := far4 (set4 h6 (.int .i64 W) (.int .i64 L') (.int .i64 V) (.int .i64 0)) d4 (.int .i64 W) (.int .i64 L') (.int .i64 V) (.int .i64 R')
        have r3 := set4 (far4 h8 d5 (.int .i64 W) (.int .i64 L') (.int .i64 V) (.int .i64 0)) (.int .i64 W) (.int .i64 L') (.int .i64 V) (.int .i64 R')
        exact agree_meet hlt r1 r2 r3 HI.out
    · obtain rfl : k = n := by omega
      obtain ⟨he, L', G, hg, hf⟩ := agree_end hinv
      have Ea := eat_any W L U R U
      rw [he] at Ea
      have Gr := grant_any W L U U
      rw [hg] at Gr
      have F := free_any W L' U U
      generalize freeV W L' U U = fr at *
      have hf2 : fr > 0 := hf
      replace Ea := Lib.hid Ea
      replace Gr := Lib.hid Gr
      replace F := Lib.hid F
      clear hinv he hg
      unfold led26 at h6 h8
      dsimp only at h6 h8
      obtain ⟨a0, a1, a2, a3, a4, a5, a6, a7, a8⟩ := cells4 h8
      go_wp2_with (first
        | ((with_reducible refine (Ea.out _).mono ?_); rintro e w5 ⟨rfl, hb2⟩; have B5 := bt hb hb2; clear hb2)
        | ((with_reducible refine (Gr.out _).mono ?_); rintro e w6 ⟨rfl, hb2⟩; have h19 := blk_grow hb2 (blk_new rfl); have B6 := bt (bta B5 _) hb2; clear hb2; generalize w5.heap.size = p19 at *; obtain ⟨b0, b1, b2, b3, b4, b5, b6, b7, b8⟩ := cells4 h19)
        | ((with_reducible refine (F.out _).mono ?_); rintro e w7 ⟨rfl, hb2⟩; have B7 := bt (bta B6 _) hb2; clear hb2)
        | ((with_reducible refine (awake_any _).mono ?_); rintro e w8 ⟨rfl, hb2⟩; have B8 := bt B7 hb2; clear hb2))
      go_returns
      exact ⟨rfl, B8⟩
end Go.Proofs.Ytfdikbbojddbmaa
