/- awake: the law's own check of a ring of three cells, which answers true. -/
import Derived.Test.YtckmahgkeinggaaT6
import Derived.Laws.IdiomStrings
import Derived.Lib.SmallJoins
namespace Go.Proofs.Ytckmahgkeinggaa
open Go.RowKit
attribute [local go_sem] cell_over frozen_over lt_over le_over ne_over over_ne cell_set_same softAt softUpon

theorem conv_lit (w : World) (C : Array Value) (n c : Nat) : (convert 33 33 (.slice (some ⟨w.heap.size, 0, none⟩) n c)).run Try.prog (w.alloc (.cells C 5 (0, 0))) = .ok (.slice (some ⟨w.heap.size, 0, none⟩) n c) (w.alloc (.cells C 5 (C.size, C.size + 1))) :=
  Joins.run_convert_bytes_const_at w 33 5 C n c _ rfl Try.underlying33 Try.underlying5
theorem conv_str (w : World) (b : Nat) (l : List UInt8) (cs : Array Value) (h : w.heap[b]? = some (.cells cs 5 (0, 0))) (hc : ∀ j (hj : j < l.length), cs[j]? = some (.int .u8 (l[j].toNat : Int))) :
    (convert 33 9 (.slice (some ⟨b, 0, none⟩) l.length l.length)).run Try.prog w = .ok (.string ⟨l.toArray⟩) w := by
  refine run_convert_bytes_back (P := Try.prog) w 33 9 5 ⟨b, 0, none⟩ l.length l Try.underlying33 Try.underlying5 Try.underlying9 (fun j hj => ?_)
  have : w.cell? ⟨b, 0 + j, none⟩ = some (.int .u8 (l[j].toNat : Int)) := by rw [Nat.zero_add, blk_cell h]; exact hc j hj
  unfold Addr.add
  split
  · rename_i h0; subst h0; exact this
  · exact this
theorem conv_2 (w : World) (b : Nat) (x y : UInt8) (h : w.heap[b]? = some (.cells #[.int .u8 (x.toNat : Int), .int .u8 (y.toNat : Int)] 5 (0, 0))) :
    (convert 33 9 (.slice (some ⟨b, 0, none⟩) 2 2)).run Try.prog w = .ok (.string ⟨#[x, y]⟩) w :=
  conv_str w b [x, y] _ h (fun j hj => by
    have hj : j = 0 ∨ j = 1 := by simp at hj; omega
    rcases hj with rfl | rfl <;> rfl)
theorem conv_1 (w : World) (b : Nat) (x : UInt8) (h : w.heap[b]? = some (.cells #[.int .u8 (x.toNat : Int)] 5 (0, 0))) :
    (convert 33 9 (.slice (some ⟨b, 0, none⟩) 1 1)).run Try.prog w = .ok (.string ⟨#[x]⟩) w :=
  conv_str w b [x] _ h (fun j hj => by
    obtain rfl : j = 0 := by simp at hj; omega
    rfl)
attribute [local go_sem] conv_lit

theorem bys_lit {w : World} {b : Nat} {cs : Array Value} {fz : Nat × Nat} (h : w.heap[b]? = some (.cells cs 5 fz)) : Bys w (some ⟨b, 0, none⟩) cs.toList := by
  intro j v hj
  refine ⟨b, 0, rfl, ?_⟩
  rw [blk_cell h, Nat.zero_add]
  simpa using hj

theorem pushA {w : World} {pr pc : Nat} (hm : InMem w pr pc 3 0 0 0 [.int .u8 0, .int .u8 0, .int .u8 0]) (b : Nat) {fz : Nat × Nat} (hb : w.heap[b]? = some (.cells #[.int .u8 97, .int .u8 98, .int .u8 99, .int .u8 100] 5 fz)) (h1 : b ≠ pr) (h2 : b ≠ pc) :
    Calls Try.prog 13 #[.pointer (some ⟨pr, 0, none⟩), .slice (some ⟨b, 0, none⟩) 4 4] w fun e w' => e = .returned (.int .i64 3) ∧ Touch w w' pr pc ∧ InMem w' pr pc 3 0 3 3 [.int .u8 97, .int .u8 98, .int .u8 99] :=
  push_flat hm b 0 4 0 3 (bys_lit hb) h1 h2 (by decide) (by decide) (by decide) (by decide) (by decide) (by decide) (by decide) (by decide)
theorem popA {w : World} {pr pc : Nat} (hm : InMem w pr pc 3 0 3 3 [.int .u8 97, .int .u8 98, .int .u8 99]) :
    Calls Try.prog 10 #[.pointer (some ⟨pr, 0, none⟩), .int .i64 2] w fun e w' => ∃ pb, e = .returned (.slice (some ⟨pb, 0, none⟩) 2 2) ∧ w.heap.size ≤ pb ∧ Touch w w' pr pc ∧ InMem w' pr pc 3 2 1 3 [.int .u8 0, .int .u8 0, .int .u8 99] ∧ w'.heap[pb]? = some (.cells #[.int .u8 97, .int .u8 98] 5 (0, 0)) :=
  pop_flat hm 2 0 2 2 (by unfold Bytes1; decide) (by decide) (by decide) (by decide) (by decide) (by decide) (by decide)
theorem pushB {w : World} {pr pc : Nat} (hm : InMem w pr pc 3 2 1 3 [.int .u8 0, .int .u8 0, .int .u8 99]) (b : Nat) {fz : Nat × Nat} (hb : w.heap[b]? = some (.cells #[.int .u8 120, .int .u8 121, .int .u8 122] 5 fz)) (h1 : b ≠ pr) (h2 : b ≠ pc) :
    Calls Try.prog 13 #[.pointer (some ⟨pr, 0, none⟩), .slice (some ⟨b, 0, none⟩) 3 3] w fun e w' => e = .returned (.int .i64 2) ∧ Touch w w' pr pc ∧ InMem w' pr pc 3 2 3 5 [.int .u8 120, .int .u8 121, .int .u8 99] :=
  push_flat hm b 0 3 0 2 (bys_lit hb) h1 h2 (by decide) (by decide) (by decide) (by decide) (by decide) (by decide) (by decide) (by decide)
theorem peekA {w : World} {pr pc : Nat} (hm : InMem w pr pc 3 2 3 5 [.int .u8 120, .int .u8 121, .int .u8 99]) :
    Calls Try.prog 18 #[.pointer (some ⟨pr, 0, none⟩), .int .i64 1, .int .i64 1] w fun e w' => ∃ pb, e = .returned (.slice (some ⟨pb, 0, none⟩) 1 1) ∧ w.heap.size ≤ pb ∧ Below w.heap.size w w' ∧ w'.heap[pb]? = some (.cells #[.int .u8 120] 5 (0, 0)) :=
  peek_flat hm 1 1 0 1 (by unfold Bytes1; decide) (by decide) (by decide) (by decide) (by decide) (by decide) (by decide) (by decide)
theorem dropA {w : World} {pr pc : Nat} (hm : InMem w pr pc 3 2 3 5 [.int .u8 120, .int .u8 121, .int .u8 99]) :
    Calls Try.prog 12 #[.pointer (some ⟨pr, 0, none⟩), .int .i64 1] w fun e w' => e = .returned (.int .i64 1) ∧ Touch w w' pr pc ∧ InMem w' pr pc 3 0 2 5 [.int .u8 120, .int .u8 121, .int .u8 0] :=
  drop_flat hm 1 2 0 1 (by decide) (by decide) (by decide) (by decide) (by decide) (by decide)
theorem popB {w : World} {pr pc : Nat} (hm : InMem w pr pc 3 0 2 5 [.int .u8 120, .int .u8 121, .int .u8 0]) :
    Calls Try.prog 10 #[.pointer (some ⟨pr, 0, none⟩), .int .i64 9] w fun e w' => ∃ pb, e = .returned (.slice (some ⟨pb, 0, none⟩) 2 2) ∧ w.heap.size ≤ pb ∧ Touch w w' pr pc ∧ InMem w' pr pc 3 2 0 5 [.int .u8 0, .int .u8 0, .int .u8 0] ∧ w'.heap[pb]? = some (.cells #[.int .u8 120, .int .u8 121] 5 (0, 0)) :=
  pop_flat hm 9 0 2 2 (by unfold Bytes1; decide) (by decide) (by decide) (by decide) (by decide) (by decide) (by decide)

set_option maxRecDepth 100000 in
set_option maxHeartbeats 4000000 in
theorem awake_any (w : World) : Calls Try.prog 7 #[] w fun e w' => e = .returned (.bool true) ∧ Below w.heap.size w w' := by
  go_enter Try.func7, Try.ntmps7
  go_wp2_with (first
    | ((with_reducible refine (new_3 _).mono ?_); refine unhalt ?_))
  unfold Halted
  rintro e w1 ⟨pr, pc, rfl, B1, lr, lc, hm1⟩
  have M1 := Lib.hid hm1
  have r1 := blk_lt hm1.ring
  have s1 := blk_lt hm1.cells
  clear hm1
  dsimp only
  go_wp2_with (first
    | ((with_reducible refine (pushA (M1.out.below ((Below.refl _ _).alloc (Nat.le_refl _) _)) _ (blk_new rfl) (Ne.symm (Nat.ne_of_lt r1)) (Ne.symm (Nat.ne_of_lt s1))).mono ?_); refine unhalt ?_))
  unfold Halted
  rintro e w2 ⟨rfl, hT, hm2⟩
  have B2 := hT.below w.heap.size w lr lc (bta B1 _)
  have M2 := Lib.hid hm2
  have r2 := blk_lt hm2.ring
  have s2 := blk_lt hm2.cells
  clear hT hm2 B1 M1 r1 s1
  dsimp only
  go_wp2_with (first
    | ((with_reducible refine (popA M2.out).mono ?_); refine unhalt ?_))
  unfold Halted
  rintro e w3 ⟨p4, rfl, l4, hT, hm3, h4⟩
  have B3 := hT.below w.heap.size w lr lc B2
  have M3 := Lib.hid hm3
  have r3 := blk_lt hm3.ring
  have s3 := blk_lt hm3.cells
  have z4 : p4 ≠ pr := by omega
  have y4 : p4 ≠ pc := by omega
  clear hT hm3 B2 M2 r2 s2 l4
  dsimp only
  go_wp2_with (first
    | ((with_reducible refine (pushB (M3.out.below ((Below.refl _ _).alloc (Nat.le_refl _) _)) _ (blk_new rfl) (Ne.symm (Nat.ne_of_lt r3)) (Ne.symm (Nat.ne_of_lt s3))).mono ?_); refine unhalt ?_))
  unfold Halted
  rintro e w4 ⟨rfl, hT, hm4⟩
  have B4 := hT.below w.heap.size w lr lc (bta B3 _)
  replace h4 := hT.other p4 _ z4 y4 (blk_old h4)
  have M4 := Lib.hid hm4
  have r4 := blk_lt hm4.ring
  have s4 := blk_lt hm4.cells
  clear hT hm4 B3 M3 r3 s3
  dsimp only
  go_wp2_with (first
    | ((with_reducible refine (peekA M4.out).mono ?_); refine unhalt ?_))
  unfold Halted
  rintro e w5 ⟨p6, rfl, l6, hb, h6⟩
  have B5 := bt B4 hb
  replace h4 := blk_grow hb h4
  have M5 := Lib.hid (M4.out.below hb)
  have z6 : p6 ≠ pr := by omega
  have y6 : p6 ≠ pc := by omega
  clear hb B4 M4 r4 s4 l6
  dsimp only
  go_wp2_with (first
    | ((with_reducible refine (dropA M5.out).mono ?_); refine unhalt ?_))
  unfold Halted
  rintro e w6 ⟨rfl, hT, hm6⟩
  have B6 := hT.below w.heap.size w lr lc B5
  replace h4 := hT.other p4 _ z4 y4 h4
  replace h6 := hT.other p6 _ z6 y6 h6
  have M6 := Lib.hid hm6
  clear hT hm6 B5 M5
  dsimp only
  go_wp2_with (first
    | ((with_reducible refine (popB M6.out).mono ?_); refine unhalt ?_))
  unfold Halted
  rintro e w7 ⟨p8, rfl, l8, hT, hm7, h8⟩
  have B7 := hT.below w.heap.size w lr lc B6
  replace h4 := hT.other p4 _ z4 y4 h4
  replace h6 := hT.other p6 _ z6 y6 h6
  have M7 := Lib.hid hm7
  clear hT hm7 B6 M6 l8
  dsimp only
  go_wp2_with (first
    | ((with_reducible refine (new_0 _).mono ?_); refine unhalt ?_))
  unfold Halted
  rintro e w8 ⟨rfl, hb⟩
  have B8 := bt B7 hb
  have q4 := conv_2 w8 p4 97 98 (blk_grow hb h4)
  have q6 := conv_1 w8 p6 120 (blk_grow hb h6)
  have q8 := conv_2 w8 p8 120 121 (blk_grow hb h8)
  have M8 := Lib.hid (M7.out.below hb)
  clear hb B7 h4 h6 h8 M7
  dsimp only
  go_wp2_with (first
    | ((with_reducible refine (len_any M8.out.ring).mono ?_); rintro e w9 ⟨rfl, hb⟩; have B9 := bt B8 hb; have M9 := Lib.hid (M8.out.below hb); clear hb)
    | ((with_reducible refine (room_any M9.out.ring (by decide) (by decide) (by decide)).mono ?_); rintro e w10 ⟨rfl, hb⟩; have B10 := bt B9 hb; have M10 := Lib.hid (M9.out.below hb); clear hb)
    | ((with_reducible refine (total_any M10.out.ring).mono ?_); rintro e w11 ⟨rfl, hb⟩; have B11 := bt B10 hb; clear hb))
  go_returns
  exact ⟨rfl, B11⟩
end Go.Proofs.Ytckmahgkeinggaa
