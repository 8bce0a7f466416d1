/- The contracts of the functions of the packages rules and sennitref17: each returns what a plain function of integers computes, and leaves all memory that stood before as it was. No conditions beyond the arguments being bytes. -/
import Derived.Test.YtppmjbjgcakieaaProg
import Derived.WalkKit
import Derived.WalkSpells
import Derived.WalkLawsBesides
import Derived.Handy
import Derived.Deep.Light
namespace Go.Proofs.Ytppmjbjgcakieaa
open Go.RowKit

def rowB (k : Nat) : ByteArray := match k with
  | 0 => ⟨#[102, 80, 102, 102, 105, 105, 80]⟩
  | 1 => ⟨#[80, 102, 80, 80, 67, 67, 80]⟩
  | 2 => ⟨#[80, 102, 102, 102, 102, 102, 102]⟩
  | 3 => ⟨#[80, 80, 102, 102, 105, 105, 80]⟩
  | 4 => ⟨#[102, 80, 80, 80, 80, 80, 80]⟩
  | 5 => ⟨#[]⟩
  | 6 => ⟨#[102, 80, 80, 80, 80, 80, 80]⟩
  | 7 => ⟨#[102, 80, 80, 80, 80, 80, 80]⟩
  | 8 => ⟨#[102, 80, 102, 102, 105, 105, 80]⟩
  | 9 => ⟨#[102, 80, 102, 102, 105, 105, 80]⟩
  | _ => ⟨#[102, 80, 80, 80, 80, 80, 80]⟩
def byteB (k c : Nat) : Int := ((rowB k).data.getD c 0).toNat

theorem run_index_array_one {P : Program} (w : World) (t e : TypeId) (n : Nat) (cs : Array Value) (kd : IntKind) (i : Nat) (v : Value)
    (h : P.underlying t = some (.array n e)) (ha : (isAgg e).run P w = .ok false w) (hs : (sizeOf e).run P w = .ok 1 w)
    (hi : i < n) (hv : cs[i]? = some v) : (Instr.index t (.agg cs) (.int kd (i : Int))).run P w = .ok v w := by
  have hn : (0 : Int) ≤ (i : Int) ∧ (i : Int) < (n : Int) := by omega
  simp only [Instr.index, run_underlying h, asIntOf, part, Sem.run_bind, Sem.run_pure, Result.andThen_ok, hn, and_self, if_true, hs, ha, Int.toNat_natCast, Nat.mul_one, hv]
  simp

theorem idx2 (k c : Nat) (hk : (rowB k).size = 7) (hc : c < 7) (w : World) : (Instr.index 9 (.string (rowB k)) (.int .u8 (c : Int))).run Try.prog w = .ok (.int .u8 (byteB k c)) w := by
  have h : (0 : Int) ≤ (c : Int) ∧ (c : Int) < ((rowB k).size : Nat) := by omega
  have h3 : c < (rowB k).data.size := by have : (rowB k).data.size = (rowB k).size := rfl; omega
  rw [run_index_string _ _ _ _ _ Try.underlying9, dif_pos h]
  unfold byteB
  rw [Array.getD_eq_getD_getElem?, Array.getElem?_eq_getElem h3]
  rfl

theorem isAgg9 (w : World) : (isAgg 9).run Try.prog w = .ok false w := by kernel_rfl
theorem sizeOf9 (w : World) : (sizeOf 9).run Try.prog w = .ok 1 w := by kernel_rfl
def tbl : Array Value := #[Value.string { data := #[102, 80, 102, 102, 105, 105, 80] },
                Value.string { data := #[80, 102, 80, 80, 67, 67, 80] },
                Value.string { data := #[80, 102, 102, 102, 102, 102, 102] },
                Value.string { data := #[80, 80, 102, 102, 105, 105, 80] },
                Value.string { data := #[102, 80, 80, 80, 80, 80, 80] }, Value.string { data := #[] },
                Value.string { data := #[102, 80, 80, 80, 80, 80, 80] },
                Value.string { data := #[102, 80, 80, 80, 80, 80, 80] },
                Value.string { data := #[102, 80, 102, 102, 105, 105, 80] },
                Value.string { data := #[102, 80, 102, 102, 105, 105, 80] },
                Value.string { data := #[102, 80, 80, 80, 80, 80, 80] }]
theorem tbl_at (k : Nat) (hk : k < 11) : tbl[k]? = some (.string (rowB k)) := by
  match k, hk with
  | 0, _ => rfl
  | 1, _ => rfl
  | 2, _ => rfl
  | 3, _ => rfl
  | 4, _ => rfl
  | 5, _ => rfl
  | 6, _ => rfl
  | 7, _ => rfl
  | 8, _ => rfl
  | 9, _ => rfl
  | 10, _ => rfl
  | n + 11, h => exact absurd h (by omega)
theorem size7 (k : Nat) (hk : k < 11) (h5 : k ≠ 5) : (rowB k).size = 7 := by
  match k, hk, h5 with
  | 0, _, _ => rfl
  | 1, _, _ => rfl
  | 2, _, _ => rfl
  | 3, _, _ => rfl
  | 4, _, _ => rfl
  | 6, _, _ => rfl
  | 7, _, _ => rfl
  | 8, _, _ => rfl
  | 9, _, _ => rfl
  | 10, _, _ => rfl
  | 5, _, h => exact absurd rfl h
  | n + 11, h, _ => exact absurd h (by omega)

def judV (k c : Nat) : Int × Int :=
  if 11 ≤ k ∨ 7 ≤ c ∨ k = 5 then (3, 2) else if byteB k c = 80 then (3, 1) else if byteB k c = 67 then (3, 5) else if byteB k c = 105 then (1, 0) else (0, 0)

theorem rowB_ne (k : Nat) (hk : k < 11) (h5 : k ≠ 5) : (rowB k).toList.isEmpty = false := by
  have h := size7 k hk h5
  rw [ByteArray.toList_eq]
  cases hd : (rowB k).data.toList with
  | nil =>
    have h1 := congrArg List.length hd
    have h2 : (rowB k).data.toList.length = (rowB k).size := rfl
    rw [h2, h] at h1
    simp at h1
  | cons x l => rfl

theorem ret_v {a b c d : Int} {k l : IntKind} (h : (a, b) = (c, d)) : Ending.returned (.agg #[.int k a, .int l b]) = .returned (.agg #[.int k c, .int l d]) := by
  cases h; rfl

theorem judV_a {k c : Nat} (hk : k < 11) (h5 : k ≠ 5) (hc : c < 7) (h : (byteB k c == 80) = true) : (3, 1) = judV k c := by
  have e : byteB k c = 80 := by simpa using h
  unfold judV
  rw [if_neg (by omega), if_pos e]
theorem judV_b {k c : Nat} (hk : k < 11) (h5 : k ≠ 5) (hc : c < 7) (h : (byteB k c == 80) = false) (h2 : (byteB k c == 67) = true) : (3, 5) = judV k c := by
  have e : ¬ byteB k c = 80 := by simpa using h
  have e2 : byteB k c = 67 := by simpa using h2
  unfold judV
  rw [if_neg (by omega), if_neg e, if_pos e2]
theorem judV_c {k c : Nat} (hk : k < 11) (h5 : k ≠ 5) (hc : c < 7) (h : (byteB k c == 80) = false) (h2 : (byteB k c == 67) = false) (h3 : (byteB k c == 105) = true) : (1, 0) = judV k c := by
  have e : ¬ byteB k c = 80 := by simpa using h
  have e2 : ¬ byteB k c = 67 := by simpa using h2
  have e3 : byteB k c = 105 := by simpa using h3
  unfold judV
  rw [if_neg (by omega), if_neg e, if_neg e2, if_pos e3]
theorem judV_d {k c : Nat} (hk : k < 11) (h5 : k ≠ 5) (hc : c < 7) (h : (byteB k c == 80) = false) (h2 : (byteB k c == 67) = false) (h3 : (byteB k c == 105) = false) : (0, 0) = judV k c := by
  have e : ¬ byteB k c = 80 := by simpa using h
  have e2 : ¬ byteB k c = 67 := by simpa using h2
  have e3 : ¬ byteB k c = 105 := by simpa using h3
  unfold judV
  rw [if_neg (by omega), if_neg e, if_neg e2, if_neg e3]

set_option maxHeartbeats 400000 in
theorem judge_in (k c : Nat) (hk : k < 11) (h5 : k ≠ 5) (hc : c < 7) (w : World) :
    Calls Try.prog 7 #[.int .u8 k, .int .u8 c] w fun e w' => e = .returned (.agg #[.int .i64 (judV k c).1, .int .u32 (judV k c).2]) ∧ Below w.heap.size w w' := by
  have i1 : ∀ w : World, (Instr.index 43 (.agg tbl) (.int .u8 (k : Int))).run Try.prog w = .ok (.string (rowB k)) w := fun w => run_index_array_one w 43 9 11 tbl .u8 k (.string (rowB k)) Try.underlying43 (isAgg9 w) (sizeOf9 w) hk (tbl_at k hk)
  have s7 := size7 k hk h5
  have i2 := idx2 k c s7 hc
  unfold tbl at i1
  have e1 : ((rowB k).toList.isEmpty) = false := rowB_ne k hk h5
  clear s7
  go_enter Try.func7, Try.ntmps7
  go_wp2
  all_goals go_returns
  all_goals refine ⟨ret_v ?_, by go_grown⟩
  · exact judV_a hk h5 hc (by assumption)
  · exact judV_b hk h5 hc (by assumption) (by assumption)
  · exact judV_c hk h5 hc (by assumption) (by assumption) (by assumption)
  · exact judV_d hk h5 hc (by assumption) (by assumption) (by assumption)

set_option maxHeartbeats 400000 in
theorem judge_5 (c : Nat) (w : World) :
    Calls Try.prog 7 #[.int .u8 5, .int .u8 c] w fun e w' => e = .returned (.agg #[.int .i64 (judV 5 c).1, .int .u32 (judV 5 c).2]) ∧ Below w.heap.size w w' := by
  have i1 : ∀ w : World, (Instr.index 43 (.agg tbl) (.int .u8 5)).run Try.prog w = .ok (.string (rowB 5)) w := fun w => run_index_array_one w 43 9 11 tbl .u8 5 (.string (rowB 5)) Try.underlying43 (isAgg9 w) (sizeOf9 w) (by omega) (tbl_at 5 (by omega))
  unfold tbl at i1
  have e1 : rowB 5 = ⟨#[]⟩ := rfl
  rw [e1] at i1
  clear e1
  go_enter Try.func7, Try.ntmps7
  go_wp2
  all_goals go_returns
  all_goals refine ⟨ret_v ?_, by go_grown⟩
  all_goals simp [judV]

set_option maxHeartbeats 400000 in
theorem judge_out (k c : Nat) (h : 11 ≤ k ∨ 7 ≤ c) (w : World) :
    Calls Try.prog 7 #[.int .u8 k, .int .u8 c] w fun e w' => e = .returned (.agg #[.int .i64 (judV k c).1, .int .u32 (judV k c).2]) ∧ Below w.heap.size w w' := by
  have H : Hid (11 ≤ k ∨ 7 ≤ c ∨ k = 5) := by rcases h with h | h; exact .inl h; exact .inr (.inl h)
  rcases h with h | h
  · go_enter Try.func7, Try.ntmps7
    go_wp2
    all_goals go_returns
    all_goals refine ⟨ret_v ?_, by go_grown⟩
    all_goals simp only [judV, if_pos H.out]
  · by_cases h1 : 11 ≤ k
    all_goals
      go_enter Try.func7, Try.ntmps7
      go_wp2
      all_goals go_returns
      all_goals refine ⟨ret_v ?_, by go_grown⟩
      all_goals simp only [judV, if_pos H.out]

/-- Judge, at all bytes. -/
theorem judge_any (k c : Nat) (w : World) :
    Calls Try.prog 7 #[.int .u8 k, .int .u8 c] w fun e w' => e = .returned (.agg #[.int .i64 (judV k c).1, .int .u32 (judV k c).2]) ∧ Below w.heap.size w w' := by
  by_cases h : 11 ≤ k ∨ 7 ≤ c
  · exact judge_out k c h w
  · by_cases h5 : k = 5
    · subst h5; exact judge_5 c w
    · exact judge_in k c (by omega) h5 (by omega) w

end Go.Proofs.Ytppmjbjgcakieaa
