/- Rows of pairs, and the contract of Pairs of the package tune: the four pairs, in a row of its own; all memory that stood before is left as it was. -/
import Derived.Test.YtgjajliiichfmaaT3
import Derived.Laws.AppendOwn
namespace Go.Proofs.Ytgjajliiichfmaa
open Go.RowKit
attribute [local go_sem] cell_over frozen_over lt_over le_over ne_over over_ne cell_set_same softAt softUpon

/-- The number at a place of four. -/
def at4 (a b c d : Int) : Nat → Int
  | 0 => a
  | 1 => b
  | 2 => c
  | _ => d
theorem index_at (a b c d : Int) (k : IntKind) (i : Nat) (w : World) (h : i < 4) : (Instr.index 42 (.agg #[.int .i64 a, .int .i64 b, .int .i64 c, .int .i64 d]) (.int k (i : Int))).run Try.prog w = .ok (.int .i64 (at4 a b c d i)) w := by
  rw [index_row _ _ _ _ _ _ _ (by omega) (by omega)]
  have h : i = 0 ∨ i = 1 ∨ i = 2 ∨ i = 3 := by omega
  rcases h with rfl | rfl | rfl | rfl <;> rfl
attribute [local go_sem] index_at

/-- Pairs as cells. -/
def prsL (l : List (Int × Int)) : List Value := l.flatMap fun p => [.int .i64 p.1, .int .i64 p.2]
theorem prsL_append (l : List (Int × Int)) (p : Int × Int) : prsL (l ++ [p]) = prsL l ++ [.int .i64 p.1, .int .i64 p.2] := by simp [prsL]
theorem prsL_len (l : List (Int × Int)) : (prsL l).length = l.length * 2 := by
  induction l with
  | nil => rfl
  | cons p l ih =>
    have : prsL (p :: l) = [.int .i64 p.1, .int .i64 p.2] ++ prsL l := rfl
    rw [this]
    simp [ih]
    omega
theorem prsL_get (l : List (Int × Int)) (i : Nat) (p : Int × Int) (h : l[i]? = some p) : (prsL l)[i * 2]? = some (.int .i64 p.1) ∧ (prsL l)[i * 2 + 1]? = some (.int .i64 p.2) := by
  induction l generalizing i with
  | nil => simp at h
  | cons q l ih =>
    have e : prsL (q :: l) = .int .i64 q.1 :: .int .i64 q.2 :: prsL l := rfl
    rw [e]
    rcases i with _ | i
    · obtain rfl : q = p := by simpa using h
      exact ⟨rfl, rfl⟩
    · have := ih i (by simpa using h)
      rw [show (i + 1) * 2 = i * 2 + 1 + 1 by omega]
      exact this
/-- A row of pairs in memory. -/
def Prs (w : World) (a : Option Addr) (l : List (Int × Int)) : Prop := ∀ i p, l[i]? = some p → ∃ b o, a = some ⟨b, o, none⟩ ∧ w.cell? ⟨b, o + i * 2, none⟩ = some (.int .i64 p.1) ∧ w.cell? ⟨b, o + (i * 2 + 1), none⟩ = some (.int .i64 p.2)
theorem Prs.below {w w' : World} {a : Option Addr} {l : List (Int × Int)} (h : Prs w a l) (hb : Below w.heap.size w w') : Prs w' a l :=
  fun i p hi => let ⟨b, o, e, h1, h2⟩ := h i p hi; ⟨b, o, e, cell_below hb h1, cell_below hb h2⟩
theorem own_prs {w : World} {base : Nat} {e : TypeId} {v : Value} {l : List (Int × Int)} (h : w.ownsRow base e 2 v l.length (prsL l)) : ∃ a c, v = .slice a l.length c ∧ Prs w a l := by
  rcases h.2 with ⟨rfl, h0⟩ | ⟨g, cap, cur, rfl, hb, hg, _⟩
  · exact ⟨none, 0, by rw [h0], fun i p hi => by rw [List.eq_nil_of_length_eq_zero h0] at hi; simp at hi⟩
  · refine ⟨some ⟨g, 0, none⟩, cap, rfl, fun i p hi => ⟨g, 0, rfl, ?_, ?_⟩⟩
    · have hlt := (List.getElem?_eq_some_iff.1 hi).1
      rw [Nat.zero_add, h.cellAt (i * 2) (by omega)]; exact (prsL_get l i p hi).1
    · have hlt := (List.getElem?_eq_some_iff.1 hi).1
      rw [Nat.zero_add, h.cellAt (i * 2 + 1) (by omega)]; exact (prsL_get l i p hi).2

theorem own_below {w w' : World} {base : Nat} {e : TypeId} {size : Nat} {v : Value} {n : Nat} {xs : List Value} (h : w.ownsRow base e size v n xs) (hb : Below w.heap.size w w') : w'.ownsRow base e size v n xs := by
  refine ⟨h.1, ?_⟩
  rcases h.2 with hn | ⟨g, cap, cur, hv, hb', hg, rest⟩
  · exact .inl hn
  · exact .inr ⟨g, cap, cur, hv, hb', blk_grow hb hg, rest⟩

theorem info39 : (Try.prog.info? 39).map (fun i => (i.zero, i.size, i.bytes)) = some (some (.agg #[.int .i64 0, .int .i64 0]), 2, 16) := by kernel_rfl

/-- The first k pairs of four. -/
def pl (f : Nat → Int) : Nat → List (Int × Int)
  | 0 => []
  | k + 1 => pl f k ++ [((k : Int) + 1, f k)]
theorem pl_len (f : Nat → Int) (k : Nat) : (pl f k).length = k := by
  induction k with
  | zero => rfl
  | succ k ih => simp [pl, ih]

set_option maxHeartbeats 2000000 in
theorem pairs_any (a b c d : Int) (w : World) : Calls Try.prog 10 #[.agg #[.int .i64 a, .int .i64 b, .int .i64 c, .int .i64 d]] w fun e w' => ∃ v, e = .returned v ∧ Below w.heap.size w w' ∧ w'.ownsRow w.heap.size 39 2 v 4 (prsL (pl (at4 a b c d) 4)) := by
  have R1 := Lib.hid (row_any a b c d)
  obtain ⟨i0, hi, hz0, hz1, hz2⟩ := info_parts info39
  generalize hf : at4 a b c d = f
  have HF := Lib.hid hf
  have HI : ∀ (k : IntKind) (i : Nat) (w : World), i < 4 → (Instr.index 42 (.agg #[.int .i64 a, .int .i64 b, .int .i64 c, .int .i64 d]) (.int k (i : Int))).run Try.prog w = .ok (.int .i64 (f i)) w := fun k i w h => by rw [index_at _ _ _ _ _ _ _ h, hf]
  clear hf
  go_enter Try.func10, Try.ntmps10
  go_wp2_with (first
    | ((with_reducible refine (R1.out _).mono ?_); rintro e w1 ⟨rfl, hb⟩;
        have B1 := bt (bta (Below.refl _ _) _) hb; clear hb))
  go_loopw [3, 8] (fun v i wr => ∃ k : Nat, k ≤ 4 ∧ i = .int .i64 k ∧ Below w.heap.size w wr ∧ wr.ownsRow w.heap.size 39 2 v k (prsL (pl f k)))
    (fun _ i _ => 4 - (intOf i).toNat)
  case atStart => exact ⟨0, Nat.zero_le _, rfl, B1, World.ownsRow_nil _ _ _ _⟩
  case round =>
    obtain ⟨k, hk, rfl, hb, hown⟩ := hrel
    by_cases hlt : k < 4
    · have k0 : (0 : Int) ≤ (k : Int) := by omega
      have k1 : (k : Int) < 4 := by omega
      have hO : prsL (pl f (k + 1)) = prsL (pl f k) ++ [.int .i64 ((k : Int) + 1), .int .i64 (f k)] := prsL_append _ _
      have HO := Lib.hid hO
      have HIk := HI .i64 k
      clear HI hO
      go_wp2_with (at_builtin; refine unhalt ?_)
      unfold Halted
      refine wpList_append_own _ rfl (.tmp 12) (.tmp 17) 27 rfl w.heap.size 39 i0 (.agg #[.int .i64 0, .int .i64 0]) 2 16 Try.underlying27 hi hz0 hz1 hz2 rfl (by decide) u3 k _ rfl (?_ : World.ownsRow _ _ _ _ _ _ (prsL (pl f k))) _ 1 1 [.int .i64 ((k : Int) + 1), .int .i64 (f k)] rfl rfl ?_ ?_ ?_ ?_ ?_ ?_
      · exact hown.alloc _
      · intro j u hj
        rcases j with _ | _ | j
        · have hu : u = .int .i64 ((k : Int) + 1) := by simpa using hj.symm
          subst hu
          simp [Addr.add]
        · have hu : u = .int .i64 (f k) := by simpa using hj.symm
          subst hu
          simp [Addr.add]
        · simp at hj
      · intro u hu
        have hu : u = .int .i64 ((k : Int) + 1) ∨ u = .int .i64 (f k) := by simpa using hu
        rcases hu with rfl | rfl <;> rfl
      · unfold maxLen; omega
      · omega
      · have := hb.size
        simp
        omega
      · intro v' w' hown' hgrow _
        have hlt' := hown.lt
        have hW := bta hb (Obj.cells #[Value.int IntKind.i64 ((k : Int) + 1), Value.int IntKind.i64 (f k)] 39)
        have hB' := hW.grown hgrow hW.size fun g hg => by
          have := (hlt' g hg).1
          omega
        clear hW hgrow hlt' hown
        go_wp2
        go_roundw
        case rel => exact ⟨k + 1, by omega, by go_num, hB', by rw [HO.out]; exact hown'⟩
        case measure => simp [intOf]; omega
    · obtain rfl : k = 4 := by omega
      go_wp2
      go_returns
      exact ⟨_, rfl, hb, hown⟩
end Go.Proofs.Ytgjajliiichfmaa
