/- The law RulesWorst returns true, and leaves all memory that stood before as it was: whatever bytes come in. No conditions. -/
import Derived.Test.YtppmjbjgcakieaaP
namespace Go.Proofs.Ytppmjbjgcakieaa
open Go.RowKit
attribute [local go_sem] softAt softUpon cell_over frozen_over

theorem sub_fact (t : TypeId) (ht : Try.prog.underlying t = some (.slice (Try.prog.elem t))) (hs : ∀ w, (sizeOf (Try.prog.elem t)).run Try.prog w = .ok 1 w) {w : World} {a : Option Addr} {n cap : Nat} {xs : Nat → Nat} (h : Bytes w a cap xs) (hi : Nat) (h2 : hi ≤ cap) :
    ∃ b d, (∀ W, (Instr.sliceAt t (.slice a n cap) none (some (.int .i64 (hi : Int))) none).run Try.prog W = .ok (.slice b hi d) W) ∧ Bytes w b hi xs := by
  refine ⟨if cap = 0 then a else a.map (·.add (0 * 1)), cap - 0, fun W => ?_, ?_⟩
  · rw [run_sliceAt_slice _ _ _ _ _ _ ht, run_slice_h _ _ _ _ _ ht _ _ (by omega) (by omega), hs]
    rfl
  · have := bytes_sub h 0 hi (Nat.zero_le _) h2
    simpa using this
theorem sub_from (t : TypeId) (ht : Try.prog.underlying t = some (.slice (Try.prog.elem t))) (hs : ∀ w, (sizeOf (Try.prog.elem t)).run Try.prog w = .ok 1 w) {w : World} {a : Option Addr} {n cap : Nat} {xs : Nat → Nat} (h : Bytes w a cap xs) (lo : Nat) (h1 : lo ≤ n) (h2 : n ≤ cap) :
    ∃ b d, (∀ W, (Instr.sliceAt t (.slice a n cap) (some (.int .i64 (lo : Int))) none none).run Try.prog W = .ok (.slice b (n - lo) d) W) ∧ Bytes w b (n - lo) (fun j => xs (lo + j)) := by
  refine ⟨if cap = lo then a else a.map (·.add (lo * 1)), cap - lo, fun W => ?_, bytes_sub h lo n h1 h2⟩
  rw [run_sliceAt_slice _ _ _ _ _ _ ht, run_slice_l _ _ _ _ _ ht _ _ (by omega) (by omega), hs]
  rfl
theorem sub_mid (t : TypeId) (ht : Try.prog.underlying t = some (.slice (Try.prog.elem t))) (hs : ∀ w, (sizeOf (Try.prog.elem t)).run Try.prog w = .ok 1 w) {w : World} {a : Option Addr} {n cap : Nat} {xs : Nat → Nat} (h : Bytes w a cap xs) (lo hi : Nat) (h1 : lo ≤ hi) (h2 : hi ≤ cap) :
    ∃ b d, (∀ W, (Instr.sliceAt t (.slice a n cap) (some (.int .i64 (lo : Int))) (some (.int .i64 (hi : Int))) none).run Try.prog W = .ok (.slice b (hi - lo) d) W) ∧ Bytes w b (hi - lo) (fun j => xs (lo + j)) := by
  refine ⟨if cap = lo then a else a.map (·.add (lo * 1)), cap - lo, fun W => ?_, bytes_sub h lo hi h1 h2⟩
  rw [run_sliceAt_slice _ _ _ _ _ _ ht, run_slice_lh _ _ _ _ _ ht _ _ _ _ (by omega) (by omega) (by omega), hs]
  rfl
theorem sizeE (w : World) : (sizeOf (Try.prog.elem 22)).run Try.prog w = .ok 1 w := by kernel_rfl
theorem undE : Try.prog.underlying 22 = some (.slice (Try.prog.elem 22)) := by kernel_rfl

theorem worst_eq (a1 a2 : Option Addr) (n c1 c2 : Nat) (xs ys : Nat → Nat) (w : World) (h1 : Bytes w a1 n xs) (h2 : Bytes w a2 n ys) (hn : n ≤ maxLen) :
    Calls Try.prog 16 #[.slice a1 n c1, .slice a2 n c2] w fun e w' => e = .returned (.agg #[.int .i64 (worstV xs ys n).1, .int .u32 (worstV xs ys n).2]) ∧ Below w.heap.size w w' := by
  have := worst_any a1 a2 n n c1 c2 xs ys w h1 h2 hn hn
  rwa [Nat.min_self] at this

def cell27 (v : Int × Int) : Obj := .cells #[.int .i64 v.1, .int .u32 v.2] 27 (0, 0)
def zero27 : Obj := .cells #[.int .i64 0, .int .u32 0] 27 (0, 0)

set_option maxHeartbeats 2000000 in
theorem worstlaw_in (a1 a2 : Option Addr) (n m c1 c2 cut k : Nat) (xs ys : Nat → Nat) (w : World) (h1 : Bytes w a1 c1 xs) (h2 : Bytes w a2 c2 ys)
    (hn : n ≤ c1) (hm : m ≤ c2) (hc1 : c1 ≤ maxLen) (hc2 : c2 ≤ maxLen) (h60 : n ≤ 60) (hnm : n ≤ m) (hcut : cut ≤ 255) (hk : k = cut % (n + 1)) :
    Calls Try.prog 5 #[.slice a1 n c1, .slice a2 m c2, .int .u8 cut] w fun e w' => e = .returned (.bool true) ∧ Below w.heap.size w w' := by
  have hkn : k ≤ n := by rw [hk]; exact Nat.lt_succ_iff.1 (Nat.mod_lt cut (Nat.succ_pos n))
  have hrem : (cut : Int) % ((n : Int) + 1) = (k : Int) := by rw [hk]; simp
  clear hk
  unfold maxLen at hc1 hc2
  have H1 := Lib.hid h1
  have H2 := Lib.hid h2
  clear h1 h2
  have t1 : ¬ (60 : Int) < (n : Int) := by omega
  have t2 : ¬ (m : Int) < (n : Int) := by omega
  have w1 : (k : Int) ≤ (c1 : Int) := by omega
  have w2 : (k : Int) ≤ (c2 : Int) := by omega
  have w3 : (k : Int) ≤ (n : Int) := by omega
  have w4 : (n : Int) ≤ (c2 : Int) := by omega
  go_enter Try.func5, Try.ntmps5
  go_wp2_with fail
  refine (worst_any a1 a2 n m c1 c2 xs ys _ (fun j hj => H1.out j (by omega)) (fun j hj => H2.out j (by omega)) (by unfold maxLen; omega) (by unfold maxLen; omega)).mono ?_
  rintro e wa ⟨rfl, ha⟩
  rw [Nat.min_eq_left hnm]
  go_wp2_with fail
  generalize hWe : wa.alloc (Obj.cells #[Value.int IntKind.i64 (worstV xs ys n).fst, Value.int IntKind.u32 (worstV xs ys n).snd] 27) = W
  have hW : Below w.heap.size w W := by rw [← hWe]; exact bta ha _
  have h9 : W.heap[wa.heap.size]? = some (.cells #[Value.int IntKind.i64 (worstV xs ys n).fst, Value.int IntKind.u32 (worstV xs ys n).snd] 27 (0, 0)) := by rw [← hWe]; exact heap_alloc_new _ _
  clear hWe ha
  generalize wa.heap.size = p9 at h9 ⊢
  obtain ⟨b1, d1, f1, g1⟩ := sub_fact 22 undE sizeE (n := n) (H1.out.below hW) k (by omega)
  obtain ⟨b2, d2, f2, g2⟩ := sub_fact 22 undE sizeE (n := m) (H2.out.below hW) k (by omega)
  obtain ⟨b3, d3, f3, g3⟩ := sub_from 22 undE sizeE (n := n) (H1.out.below hW) k hkn hn
  obtain ⟨b4, d4, f4, g4⟩ := sub_mid 22 undE sizeE (n := m) (H2.out.below hW) k n hkn (by omega)
  have G1 := Lib.hid g1
  have G2 := Lib.hid g2
  have G3 := Lib.hid g3
  have G4 := Lib.hid g4
  clear g1 g2 g3 g4
  refine wp_soft2 19 ⟨15, 10, fun b => .pointer (some ⟨b, 0, none⟩), zero27, some 17, cell27 (worstV xs ys k)⟩ ⟨16, 11, fun b => .pointer (some ⟨b, 0, none⟩), zero27, some 18, cell27 (worstV (fun j => xs (k + j)) (fun j => ys (k + j)) (n - k))⟩ (by kernel_rfl) (by kernel_rfl) (tail_end (by kernel_rfl)) ?_
  simp only [List.take_succ_cons, List.take_zero]
  repeat (first | (refine softLex_step (by rfl) (by rfl) (fun K hK => ?_); go_simp; first | (refine hK _ ?_; clear hK K) | (apply Exists.intro; refine ⟨fun x => ?_, hK _ ?_⟩; (first | exact worst_eq _ _ _ _ _ _ _ _ (G1.out.below (over_below _ _)) (G2.out.below (over_below _ _)) (by unfold maxLen; omega) | exact worst_eq _ _ _ _ _ _ _ _ (G3.out.below (over_below _ _)) (G4.out.below (over_below _ _)) (by unfold maxLen; omega)); clear hK K)))
  refine softLex_new _ rfl rfl rfl (fun y => by go_simp; rfl) ?_
  refine softLex_new _ rfl rfl rfl (fun y => by go_simp; rfl) ?_
  refine softLex_fill _ rfl rfl rfl rfl (fun y b hb => ?_) ?_
  · have e0 := blk_cell hb 0
    have e1 := blk_cell hb 1
    have e2 := blk_free hb 0
    have e3 := blk_free hb 1
    simp only [List.getElem?_toArray, List.getElem?_cons_zero, List.getElem?_cons_succ] at e0 e1
    refine ⟨_, ?_, ((Turned.refl hb).setCell 0 _).setCell 1 _⟩
    go_simp
  refine softLex_fill _ rfl rfl rfl rfl (fun y b hb => ?_) ?_
  · have e0 := blk_cell hb 0
    have e1 := blk_cell hb 1
    have e2 := blk_free hb 0
    have e3 := blk_free hb 1
    simp only [List.getElem?_toArray, List.getElem?_cons_zero, List.getElem?_cons_succ] at e0 e1
    refine ⟨_, ?_, ((Turned.refl hb).setCell 0 _).setCell 1 _⟩
    go_simp
  refine softLex_nil ?_
  intro w5 pb pc hb5 hpb hpc hbc h10 h11
  have B5 := bt hW hb5
  have h9' := blk_grow hb5 h9
  have L9 := blk_lt h9
  have L0 := hW.size
  clear hW hb5 h9 f1 f2 f3 f4 G1 G2 G3 G4
  generalize hA : worstV xs ys n = A at *
  have hwv := worst_split xs ys k (n - k)
  rw [show k + (n - k) = n by omega, hA] at hwv
  have hge := worst_ge xs ys n
  rw [hA] at hge
  generalize worstV (fun j => xs (k + j)) (fun j => ys (k + j)) (n - k) = Cv at *
  generalize worstV xs ys k = Bv at *
  have h10 : w5.heap[pb]? = some (.cells #[.int .i64 Bv.1, .int .u32 Bv.2] 27 (0, 0)) := h10
  have h11 : w5.heap[pc]? = some (.cells #[.int .i64 Cv.1, .int .u32 Cv.2] 27 (0, 0)) := h11
  have J : ∀ W, Calls Try.prog 11 #[.agg #[.int .i64 Bv.1, .int .u32 Bv.2], .agg #[.int .i64 Cv.1, .int .u32 Cv.2]] W fun x w' => x = .returned (.agg #[.int .i64 A.1, .int .u32 A.2]) ∧ Below W.heap.size W w' := by
    intro W
    rw [← hwv]
    exact worse_any _ _ _ _ W
  have HJ := Lib.hid J
  have HW := Lib.hid hwv
  have HG := Lib.hid hge
  clear J hwv hge hA
  have y0 := blk_cell h10 0
  have y1 := blk_cell h10 1
  have y2 := blk_cell h11 0
  have y3 := blk_cell h11 1
  simp only [List.getElem?_toArray, List.getElem?_cons_zero, List.getElem?_cons_succ] at y0 y1 y2 y3
  go_wp2_with ((with_reducible refine (HJ.out _).mono ?_); rintro e w6 ⟨rfl, hb6⟩)
  have z9 := blk_old (o := .cells #[.int .i64 A.1, .int .u32 A.2] 27) (blk_grow hb6 h9')
  have z10 := blk_old (o := .cells #[.int .i64 A.1, .int .u32 A.2] 27) (blk_grow hb6 h10)
  have z11 := blk_old (o := .cells #[.int .i64 A.1, .int .u32 A.2] 27) (blk_grow hb6 h11)
  have z12 := heap_alloc_new w6 (.cells #[.int .i64 A.1, .int .u32 A.2] 27)
  have Bz := bta (bt B5 hb6) (.cells #[.int .i64 A.1, .int .u32 A.2] 27)
  clear y0 y1 y2 y3 h9' h10 h11 hb6
  generalize w6.alloc (.cells #[.int .i64 A.1, .int .u32 A.2] 27) = w7 at z9 z10 z11 z12 Bz ⊢
  generalize w6.heap.size = p12 at z12 ⊢
  have qf := field0
  go_loopw [13] (fun i wr => ∃ j : Nat, j ≤ n ∧ i = .int .i64 j ∧ Below w.heap.size w wr ∧ wr.heap[p9]? = some (.cells #[.int .i64 A.1, .int .u32 A.2] 27 (0, 0)) ∧ wr.heap[pb]? = some (.cells #[.int .i64 Bv.1, .int .u32 Bv.2] 27 (0, 0)) ∧ wr.heap[pc]? = some (.cells #[.int .i64 Cv.1, .int .u32 Cv.2] 27 (0, 0)) ∧ wr.heap[p12]? = some (.cells #[.int .i64 A.1, .int .u32 A.2] 27 (0, 0)))
    (fun i _ => n - (intOf i).toNat)
  case atStart => exact ⟨0, Nat.zero_le _, rfl, Bz, z9, z10, z11, z12⟩
  case round =>
    obtain ⟨j, hj, rfl, hb, r9, r10, r11, r12⟩ := hrel
    clear z9 z10 z11 z12 Bz
    by_cases hlt : j < n
    · obtain ⟨o1, o2, ea, g1⟩ := H1.out j (by omega)
      obtain ⟨o3, o4, eb, g2⟩ := H2.out j (by omega)
      clear H1 H2
      subst ea eb
      have q1 := cell_below hb g1
      have q2 := cell_below hb g2
      have y0 := blk_cell r9 0
      simp only [List.getElem?_toArray, List.getElem?_cons_zero] at y0
      have l1 := World.block_lt_of_cell? wr _ q1
      have l2 := World.block_lt_of_cell? wr _ q2
      have l3 := blk_lt r9
      have j0 : (0 : Int) ≤ (j : Int) := by omega
      have j1 : (j : Int) < (n : Int) := by omega
      have j2 : (j : Int) < (m : Int) := by omega
      have j3 := HG.out j hlt
      have j4 : ¬ A.1 < (judV (xs j) (ys j)).1 := by omega
      clear g1 g2 j3
      go_wp2
      refine wp_soft0 13 (by kernel_rfl) (by kernel_rfl) (tail_end (by kernel_rfl)) ?_
      simp only [List.take_succ_cons, List.take_zero]
      repeat (refine softLex_step (by rfl) (by rfl) (fun K hK => ?_); go_simp; first | (refine hK _ ?_; clear hK K) | (apply Exists.intro; refine ⟨fun x => ?_, hK _ ?_⟩; (exact judge_any _ _ _); clear hK K))
      refine softLex_nil ?_
      intro w8 hb8
      have s9 := blk_grow hb8 r9
      have s10 := blk_grow hb8 r10
      have s11 := blk_grow hb8 r11
      have s12 := blk_grow hb8 r12
      have B8 := bt hb hb8
      clear q1 q2 y0 l1 l2 l3 r9 r10 r11 r12 hb hb8
      go_wp2
      go_roundw
      case rel => exact ⟨j + 1, by omega, by go_num, B8, s9, s10, s11, s12⟩
      case measure => simp [intOf]; omega
    · clear H1 H2
      have KK : ∀ W, Calls Try.prog 11 #[.agg #[.int .i64 Bv.1, .int .u32 Bv.2], .agg #[.int .i64 Bv.1, .int .u32 Bv.2]] W fun x w' => x = .returned (.agg #[.int .i64 Bv.1, .int .u32 Bv.2]) ∧ Below W.heap.size W w' := by
        intro W
        have := worse_any Bv.1 Bv.2 Bv.1 Bv.2 W
        have e : worseV (Bv.1, Bv.2) (Bv.1, Bv.2) = Bv := worse_self Bv
        rwa [e] at this
      have HK := Lib.hid KK
      clear KK
      have y0 := blk_cell r9 0
      have y1 := blk_cell r9 1
      have y2 := blk_cell r10 0
      have y3 := blk_cell r10 1
      have y4 := blk_cell r11 0
      have y5 := blk_cell r11 1
      have y6 := blk_cell r12 0
      have y7 := blk_cell r12 1
      simp only [List.getElem?_toArray, List.getElem?_cons_zero, List.getElem?_cons_succ] at y0 y1 y2 y3 y4 y5 y6 y7
      have l0 := blk_lt r9
      have l1 := blk_lt r10
      have l2 := blk_lt r11
      have l3 := blk_lt r12
      have HC : (A.1 == Bv.1 && A.2 == Bv.2) = false → A = Cv := by
        intro h
        rcases worse_one Bv Cv with e | e
        · rw [HW.out] at e
          rw [e] at h
          simp at h
        · rw [HW.out] at e
          exact e
      clear r9 r10 r11 r12 HW HG HJ
      cases hq1 : (A.1 == Bv.1) <;> cases hq2 : (A.2 == Bv.2)
      all_goals
        try
          (have hAC := HC (by rw [hq1, hq2]; rfl)
           have s1 : (A.1 == Cv.1) = true := by rw [← hAC]; simp
           have s2 : (A.2 == Cv.2) = true := by rw [← hAC]; simp
           clear hAC)
        clear HC
        go_wp2
        refine wp_soft0 24 (by kernel_rfl) (by kernel_rfl) (tail_end (by kernel_rfl)) ?_
        simp only [List.take_succ_cons, List.take_zero]
        repeat (refine softLex_step (by rfl) (by rfl) (fun K hK => ?_); go_simp; first | (refine hK _ ?_; clear hK K) | (apply Exists.intro; refine ⟨fun x => ?_, hK _ ?_⟩; (first | exact HK.out _ | exact awake_any _); clear hK K))
        refine softLex_nil ?_
        intro w8 hb8
        go_wp2
        go_ret
        exact ⟨rfl, bt hb hb8⟩
end Go.Proofs.Ytppmjbjgcakieaa
