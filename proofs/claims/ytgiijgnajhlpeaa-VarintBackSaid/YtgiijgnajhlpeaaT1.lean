/- The contracts of kind and Size of the package varint, and of Size, mark and long of the document's: which length a number has. -/
import Derived.Test.YtgiijgnajhlpeaaProg
import Derived.Test.YtgiijgnajhlpeaaH
import Derived.Test.YtgiijgnajhlpeaaS3
import Derived.Test.YtgiijgnajhlpeaaL
import Derived.WalkKit
import Derived.WalkSpells
import Derived.WalkLawsBesides
import Derived.Handy
import Derived.Laws.ResultCell
import Derived.Deep.Light
import Derived.Lib.Hide
import Derived.Lib.BitFns
namespace Go.Proofs.Ytgiijgnajhlpeaa
open Go.RowKit
attribute [local go_sem] cell_over frozen_over lt_over le_over ne_over over_ne cell_set_same softAt softUpon lightUpon heavyUpon cell_kept frozen_kept

theorem bov {a w : World} (h : Below a.heap.size a w) (x : World) : Below a.heap.size a (over w x) := bt h (over_below w x)
theorem bst {a b : World} (h : Below a.heap.size a b) {p : Addr} (hp : a.heap.size ≤ p.block) (v : Value) : Below a.heap.size a (b.setCell p v) := h.setCell hp v
/-- A goal at which the walk halts. -/
def Halted (p : Prop) : Prop := p
theorem unhalt {p : Prop} (h : Halted p) : p := h

theorem bitLen_lt : ∀ (j x : Nat), x < 2 ^ 64 → (x < 2 ^ j ↔ Lib.bitLen x ≤ j)
  | 0, x, hx => by
    by_cases h : x = 0
    · subst h
      exact ⟨fun _ => Nat.le_refl _, fun _ => by decide⟩
    · rw [Lib.bitLen_half x h hx]
      constructor <;> intro h' <;> simp at h' <;> omega
  | j + 1, x, hx => by
    by_cases h : x = 0
    · subst h
      exact ⟨fun _ => Nat.zero_le _, fun _ => Nat.pos_of_ne_zero (by simp)⟩
    · rw [Lib.bitLen_half x h hx]
      have ih := bitLen_lt j (x / 2) (by omega)
      have hp : 2 ^ (j + 1) = 2 * 2 ^ j := by rw [Nat.pow_succ, Nat.mul_comm]
      rw [hp]
      constructor
      · intro h1
        have := ih.1 (by omega)
        omega
      · intro h1
        have := ih.2 (by omega)
        omega

/-- Which length a number has; below 0: none. -/
def kindN (n : Int) : Int := if n < 0 ∨ 4611686018427387903 < n then -1 else if n < 64 then 0 else if n < 16384 then 1 else if n < 1073741824 then 2 else 3
def sizeN (n : Int) : Int := if n < 0 ∨ 4611686018427387903 < n then 0 else if n < 64 then 1 else if n < 16384 then 2 else if n < 1073741824 then 4 else 8

theorem kind_none (n : Int) (w : World) (h : n < 0 ∨ 4611686018427387903 < n) : Calls Try.prog 19 #[.int .i64 n] w fun e w' => e = .returned (.int .i64 (-1)) ∧ Below w.heap.size w w' := by
  rcases h with h | h
  · go_enter Try.func19, Try.ntmps19
    go_wp2
    go_returns
    exact ⟨rfl, Below.refl _ _⟩
  · have h1 : ¬ n < 0 := by omega
    go_enter Try.func19, Try.ntmps19
    go_wp2
    go_returns
    exact ⟨rfl, Below.refl _ _⟩

set_option maxHeartbeats 4000000 in
theorem kind_some (n : Nat) (w : World) (h : n ≤ 4611686018427387903) : Calls Try.prog 19 #[.int .i64 n] w fun e w' => e = .returned (.int .i64 (kindN n)) ∧ Below w.heap.size w w' := by
  have h1 : ¬ (n : Int) < 0 := by omega
  have h2 : ¬ (n : Int) > 4611686018427387903 := by omega
  have hL := fun W => (Try.bits_Len (n : Int) W (by omega) (by omega)).mono (R' := fun e w' => e = .returned (.int .i64 (Lib.bitLen n)) ∧ Below W.heap.size W w') (by
    rintro e w' ⟨rfl, rfl⟩
    exact ⟨by rw [Int.toNat_natCast], Below.refl _ _⟩)
  obtain ⟨b, hb⟩ : ∃ b, b = Lib.bitLen n := ⟨_, rfl⟩
  have b6 := bitLen_lt 6 n (by omega)
  have b14 := bitLen_lt 14 n (by omega)
  have b30 := bitLen_lt 30 n (by omega)
  have b62 := bitLen_lt 62 n (by omega)
  rw [← hb] at hL b6 b14 b30 b62
  have HL := Lib.hid hL
  clear hL hb
  have u0 : IntKind.u64.wrap (n : Int) = n := IntWalk.u64_in _ (by omega)
  have x8 : IntKind.i64.wrap 8 = 8 := IntWalk.i64_in _ (by omega)
  have x6 : IntKind.i64.wrap 6 = 6 := IntWalk.i64_in _ (by omega)
  have x16 : IntKind.i64.wrap 16 = 16 := IntWalk.i64_in _ (by omega)
  have x14 : IntKind.i64.wrap 14 = 14 := IntWalk.i64_in _ (by omega)
  have x32 : IntKind.i64.wrap 32 = 32 := IntWalk.i64_in _ (by omega)
  have x30 : IntKind.i64.wrap 30 = 30 := IntWalk.i64_in _ (by omega)
  have x64 : IntKind.i64.wrap 64 = 64 := IntWalk.i64_in _ (by omega)
  have x62 : IntKind.i64.wrap 62 = 62 := IntWalk.i64_in _ (by omega)
  have c62 : b ≤ 62 := b62.1 (by omega)
  have hk : (n < 64 ∧ kindN n = 0 ∧ b ≤ 6) ∨ (kindN n = 1 ∧ 6 < b ∧ b ≤ 14) ∨ (kindN n = 2 ∧ 6 < b ∧ 14 < b ∧ b ≤ 30) ∨ (kindN n = 3 ∧ 6 < b ∧ 14 < b ∧ 30 < b ∧ b ≤ 62) := by
    unfold kindN
    rw [if_neg (by omega)]
    split
    · exact .inl ⟨by omega, rfl, b6.1 (by omega)⟩
    · have : 6 < b := Nat.lt_of_not_le fun hc => by have := b6.2 hc; omega
      split
      · exact .inr (.inl ⟨rfl, this, b14.1 (by omega)⟩)
      · have : 14 < b := Nat.lt_of_not_le fun hc => by have := b14.2 hc; omega
        split
        · exact .inr (.inr (.inl ⟨rfl, by omega, this, b30.1 (by omega)⟩))
        · have : 30 < b := Nat.lt_of_not_le fun hc => by have := b30.2 hc; omega
          exact .inr (.inr (.inr ⟨rfl, by omega, by omega, this, c62⟩))
  clear b6 b14 b30 b62 c62
  rcases hk with ⟨_, q, r1⟩ | ⟨q, r1, r2⟩ | ⟨q, r1, r2, r3⟩ | ⟨q, r1, r2, r3, r4⟩
  · rw [q]
    clear q
    have v0 : (b : Int) ≤ 6 := by omega
    clear r1
    go_enter Try.func19, Try.ntmps19
    go_wp2
    refine wp_loop_rounds 1 ?_
    rw [rounds_succ]
    go_wp2
    refine wp_soft0 7 (by kernel_rfl) (by kernel_rfl) (tail_end (by kernel_rfl)) ?_
    simp only [List.take_succ_cons, List.take_zero]
    repeat (first | (refine softLex_step (by rfl) (by rfl) (fun K hK => ?_); go_simp; first | (refine hK _ ?_; clear hK K) | (apply Exists.intro; refine ⟨fun x => ?_, hK _ ?_⟩; (with_reducible exact HL.out _); clear hK K)))
    refine softLex_nil ?_
    intro w1 hb1
    go_wp2
    go_returns
    exact ⟨rfl, hb1⟩
  · rw [q]
    clear q
    have v0 : ¬ (b : Int) ≤ 6 := by omega
    have v1 : (b : Int) ≤ 14 := by omega
    clear r1 r2
    go_enter Try.func19, Try.ntmps19
    go_wp2
    refine wp_loop_rounds 2 ?_
    rw [rounds_succ]
    go_wp2
    refine wp_soft0 7 (by kernel_rfl) (by kernel_rfl) (tail_end (by kernel_rfl)) ?_
    simp only [List.take_succ_cons, List.take_zero]
    repeat (first | (refine softLex_step (by rfl) (by rfl) (fun K hK => ?_); go_simp; first | (refine hK _ ?_; clear hK K) | (apply Exists.intro; refine ⟨fun x => ?_, hK _ ?_⟩; (with_reducible exact HL.out _); clear hK K)))
    refine softLex_nil ?_
    intro w1 hb1
    go_wp2
    rw [rounds_succ]
    go_wp2
    refine wp_soft0 7 (by kernel_rfl) (by kernel_rfl) (tail_end (by kernel_rfl)) ?_
    simp only [List.take_succ_cons, List.take_zero]
    repeat (first | (refine softLex_step (by rfl) (by rfl) (fun K hK => ?_); go_simp; first | (refine hK _ ?_; clear hK K) | (apply Exists.intro; refine ⟨fun x => ?_, hK _ ?_⟩; (with_reducible exact HL.out _); clear hK K)))
    refine softLex_nil ?_
    intro w2 hb2
    go_wp2
    go_returns
    exact ⟨rfl, bt (hb1) hb2⟩
  · rw [q]
    clear q
    have v0 : ¬ (b : Int) ≤ 6 := by omega
    have v1 : ¬ (b : Int) ≤ 14 := by omega
    have v2 : (b : Int) ≤ 30 := by omega
    clear r1 r2 r3
    go_enter Try.func19, Try.ntmps19
    go_wp2
    refine wp_loop_rounds 3 ?_
    rw [rounds_succ]
    go_wp2
    refine wp_soft0 7 (by kernel_rfl) (by kernel_rfl) (tail_end (by kernel_rfl)) ?_
    simp only [List.take_succ_cons, List.take_zero]
    repeat (first | (refine softLex_step (by rfl) (by rfl) (fun K hK => ?_); go_simp; first | (refine hK _ ?_; clear hK K) | (apply Exists.intro; refine ⟨fun x => ?_, hK _ ?_⟩; (with_reducible exact HL.out _); clear hK K)))
    refine softLex_nil ?_
    intro w1 hb1
    go_wp2
    rw [rounds_succ]
    go_wp2
    refine wp_soft0 7 (by kernel_rfl) (by kernel_rfl) (tail_end (by kernel_rfl)) ?_
    simp only [List.take_succ_cons, List.take_zero]
    repeat (first | (refine softLex_step (by rfl) (by rfl) (fun K hK => ?_); go_simp; first | (refine hK _ ?_; clear hK K) | (apply Exists.intro; refine ⟨fun x => ?_, hK _ ?_⟩; (with_reducible exact HL.out _); clear hK K)))
    refine softLex_nil ?_
    intro w2 hb2
    go_wp2
    rw [rounds_succ]
    go_wp2
    refine wp_soft0 7 (by kernel_rfl) (by kernel_rfl) (tail_end (by kernel_rfl)) ?_
    simp only [List.take_succ_cons, List.take_zero]
    repeat (first | (refine softLex_step (by rfl) (by rfl) (fun K hK => ?_); go_simp; first | (refine hK _ ?_; clear hK K) | (apply Exists.intro; refine ⟨fun x => ?_, hK _ ?_⟩; (with_reducible exact HL.out _); clear hK K)))
    refine softLex_nil ?_
    intro w3 hb3
    go_wp2
    go_returns
    exact ⟨rfl, bt (bt (hb1) hb2) hb3⟩
  · rw [q]
    clear q
    have v0 : ¬ (b : Int) ≤ 6 := by omega
    have v1 : ¬ (b : Int) ≤ 14 := by omega
    have v2 : ¬ (b : Int) ≤ 30 := by omega
    have v3 : (b : Int) ≤ 62 := by omega
    clear r1 r2 r3 r4
    go_enter Try.func19, Try.ntmps19
    go_wp2
    refine wp_loop_rounds 4 ?_
    rw [rounds_succ]
    go_wp2
    refine wp_soft0 7 (by kernel_rfl) (by kernel_rfl) (tail_end (by kernel_rfl)) ?_
    simp only [List.take_succ_cons, List.take_zero]
    repeat (first | (refine softLex_step (by rfl) (by rfl) (fun K hK => ?_); go_simp; first | (refine hK _ ?_; clear hK K) | (apply Exists.intro; refine ⟨fun x => ?_, hK _ ?_⟩; (with_reducible exact HL.out _); clear hK K)))
    refine softLex_nil ?_
    intro w1 hb1
    go_wp2
    rw [rounds_succ]
    go_wp2
    refine wp_soft0 7 (by kernel_rfl) (by kernel_rfl) (tail_end (by kernel_rfl)) ?_
    simp only [List.take_succ_cons, List.take_zero]
    repeat (first | (refine softLex_step (by rfl) (by rfl) (fun K hK => ?_); go_simp; first | (refine hK _ ?_; clear hK K) | (apply Exists.intro; refine ⟨fun x => ?_, hK _ ?_⟩; (with_reducible exact HL.out _); clear hK K)))
    refine softLex_nil ?_
    intro w2 hb2
    go_wp2
    rw [rounds_succ]
    go_wp2
    refine wp_soft0 7 (by kernel_rfl) (by kernel_rfl) (tail_end (by kernel_rfl)) ?_
    simp only [List.take_succ_cons, List.take_zero]
    repeat (first | (refine softLex_step (by rfl) (by rfl) (fun K hK => ?_); go_simp; first | (refine hK _ ?_; clear hK K) | (apply Exists.intro; refine ⟨fun x => ?_, hK _ ?_⟩; (with_reducible exact HL.out _); clear hK K)))
    refine softLex_nil ?_
    intro w3 hb3
    go_wp2
    rw [rounds_succ]
    go_wp2
    refine wp_soft0 7 (by kernel_rfl) (by kernel_rfl) (tail_end (by kernel_rfl)) ?_
    simp only [List.take_succ_cons, List.take_zero]
    repeat (first | (refine softLex_step (by rfl) (by rfl) (fun K hK => ?_); go_simp; first | (refine hK _ ?_; clear hK K) | (apply Exists.intro; refine ⟨fun x => ?_, hK _ ?_⟩; (with_reducible exact HL.out _); clear hK K)))
    refine softLex_nil ?_
    intro w4 hb4
    go_wp2
    go_returns
    exact ⟨rfl, bt (bt (bt (hb1) hb2) hb3) hb4⟩
end Go.Proofs.Ytgiijgnajhlpeaa
