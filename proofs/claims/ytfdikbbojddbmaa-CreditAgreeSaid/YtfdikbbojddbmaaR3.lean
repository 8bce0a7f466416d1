/- own, which copies acts, and rows of acts and of ints out of rows that a call has made. -/
import Derived.Test.YtfdikbbojddbmaaR2
namespace Go.Proofs.Ytfdikbbojddbmaa
open Go.RowKit
attribute [local go_sem] cell_over frozen_over lt_over le_over ne_over over_ne cell_set_same softAt softUpon

def actsL (ks : Nat → Nat) (ns : Nat → Int) (n : Nat) : List Value := (List.range n).flatMap fun i => [.int .u8 (ks i), .int .i64 (ns i)]
theorem actsL_succ (ks : Nat → Nat) (ns : Nat → Int) (n : Nat) : actsL ks ns (n + 1) = actsL ks ns n ++ [.int .u8 (ks n), .int .i64 (ns n)] := by
  simp [actsL, List.range_succ]
theorem actsL_len (ks : Nat → Nat) (ns : Nat → Int) (n : Nat) : (actsL ks ns n).length = n * 2 := by
  induction n with
  | zero => rfl
  | succ n ih => rw [actsL_succ]; simp [ih]; omega
theorem actsL_get (ks : Nat → Nat) (ns : Nat → Int) (n i : Nat) (h : i < n) : (actsL ks ns n)[i * 2]? = some (.int .u8 (ks i)) ∧ (actsL ks ns n)[i * 2 + 1]? = some (.int .i64 (ns i)) := by
  induction n with
  | zero => omega
  | succ n ih =>
    rw [actsL_succ]
    have hl := actsL_len ks ns n
    rcases Nat.lt_or_ge i n with hi | hi
    · rw [List.getElem?_append_left (by omega), List.getElem?_append_left (by omega)]
      exact ih hi
    · obtain rfl : i = n := by omega
      rw [List.getElem?_append_right (by omega), List.getElem?_append_right (by omega), hl]
      constructor
      · simp
      · rw [show i * 2 + 1 - i * 2 = 1 by omega]; rfl
theorem own_acts {w : World} {base : Nat} {e : TypeId} {v : Value} {n : Nat} {ks : Nat → Nat} {ns : Nat → Int} (h : w.ownsRow base e 2 v n (actsL ks ns n)) : ∃ a c, v = .slice a n c ∧ Acts w a n ks ns := by
  rcases h.2 with ⟨rfl, rfl⟩ | ⟨g, cap, cur, rfl, hb, hg, _⟩
  · exact ⟨none, 0, rfl, fun i hi => absurd hi (Nat.not_lt_zero _)⟩
  · refine ⟨some ⟨g, 0, none⟩, cap, rfl, fun i hi => ⟨g, 0, rfl, ?_, ?_⟩⟩
    · rw [Nat.zero_add, h.cellAt (i * 2) (by omega)]; exact (actsL_get ks ns n i hi).1
    · rw [Nat.zero_add, h.cellAt (i * 2 + 1) (by omega)]; exact (actsL_get ks ns n i hi).2
theorem outs_get (f : Nat → Int) (n i : Nat) (h : i < n) : (outs f n)[i]? = some (.int .i64 (f i)) := by
  simp [outs, h]
theorem own_ints {w : World} {base : Nat} {e : TypeId} {v : Value} {n : Nat} {f : Nat → Int} (h : w.ownsRow base e 1 v n (outs f n)) : ∃ a c, v = .slice a n c ∧ Ints w a n f := by
  rcases h.2 with ⟨rfl, rfl⟩ | ⟨g, cap, cur, rfl, hb, hg, _⟩
  · exact ⟨none, 0, rfl, fun i hi => absurd hi (Nat.not_lt_zero _)⟩
  · refine ⟨some ⟨g, 0, none⟩, cap, rfl, fun i hi => ⟨g, 0, rfl, ?_⟩⟩
    rw [Nat.zero_add, h.cellAt i (by omega)]; exact outs_get f n i hi

theorem info64 : (Try.prog.info? 64).map (fun i => (i.zero, i.size, i.bytes)) = some (some (.agg #[.int .u8 0, .int .i64 0]), 2, 16) := by kernel_rfl

set_option maxHeartbeats 2000000 in
theorem own_any (a1 : Option Addr) (n c1 : Nat) (ks : Nat → Nat) (ns : Nat → Int) (w : World) (ha : Acts w a1 n ks ns) (hn : n ≤ 1000) :
    Calls Try.prog 10 #[.slice a1 n c1] w fun e w' => ∃ v, e = .returned v ∧ Below w.heap.size w w' ∧ w'.ownsRow w.heap.size 64 2 v n (actsL ks ns n) := by
  have HA := Lib.hid ha
  clear ha
  obtain ⟨i0, hi, hz0, hz1, hz2⟩ := info_parts info64
  go_enter Try.func10, Try.ntmps10
  go_wp2
  go_loopw [3, 4] (fun v i wr => ∃ k : Nat, k ≤ n ∧ i = .int .i64 k ∧ Below w.heap.size w wr ∧ wr.ownsRow w.heap.size 64 2 v k (actsL ks ns k))
    (fun _ i _ => n - (intOf i).toNat)
  case atStart => exact ⟨0, Nat.zero_le _, rfl, Below.refl _ _, World.ownsRow_nil _ _ _ _⟩
  case round =>
    obtain ⟨k, hk, rfl, hb, hown⟩ := hrel
    by_cases hlt : k < n
    · obtain ⟨b, o, rfl, g1, g2⟩ := HA.out k hlt
      have q1 := cell_below hb g1
      have q2 := cell_below hb g2
      have k0 : (0 : Int) ≤ (k : Int) := by omega
      have k1 : (k : Int) < (n : Int) := by omega
      have HO := Lib.hid (actsL_succ ks ns k)
      go_wp2_with (at_builtin; refine unhalt ?_)
      unfold Halted
      refine wpList_append_own _ rfl (.tmp 11) (.tmp 16) 35 rfl w.heap.size 64 i0 (.agg #[.int .u8 0, .int .i64 0]) 2 16 Try.underlying35 hi hz0 hz1 hz2 rfl (by decide) u3 k _ rfl (?_ : World.ownsRow _ _ _ _ _ _ (actsL ks ns k)) _ 1 1 [.int .u8 (ks k), .int .i64 (ns k)] rfl rfl ?_ ?_ ?_ ?_ ?_ ?_
      · exact hown.alloc _
      · intro j u hj
        rcases j with _ | _ | j
        · have hu : u = .int .u8 (ks k) := by simpa using hj.symm
          subst hu
          simp [Addr.add]
        · have hu : u = .int .i64 (ns k) := by simpa using hj.symm
          subst hu
          simp [Addr.add]
        · simp at hj
      · intro u hu
        have hu : u = .int .u8 (ks k) ∨ u = .int .i64 (ns k) := by simpa using hu
        rcases hu with rfl | rfl <;> rfl
      · unfold maxLen; omega
      · omega
      · have := hb.size
        simp
        omega
      · intro v' w' hown' hgrow _
        have hlt' := hown.lt
        have hW := bta hb (Obj.cells #[Value.int IntKind.u8 (ks k), Value.int IntKind.i64 (ns k)] 64)
        have hB' := hW.grown hgrow hW.size fun g hg => by
          have := (hlt' g hg).1
          omega
        clear hW hgrow hlt' hown q1 q2
        go_wp2
        go_roundw
        case rel => exact ⟨k + 1, by omega, by go_num, hB', by rw [HO.out]; exact hown'⟩
        case measure => simp [intOf]; omega
    · obtain rfl : k = n := by omega
      go_wp2
      go_returns
      exact ⟨_, rfl, hb, hown⟩

end Go.Proofs.Ytfdikbbojddbmaa
