/- The contract of up of the library's heap, at a queue's row. -/
import Derived.Test.YtickfnedplbleaaT5
import Derived.Test.YtickfnedplbleaaT8
import Derived.LoopTactic
namespace Go.Proofs.Ytickfnedplbleaa
open Go.RowKit
attribute [local go_sem] cell_over frozen_over lt_over le_over ne_over over_ne cell_set_same softAt softUpon lightUpon heavyUpon cell_kept frozen_kept

theorem swap_sw {w : World} {B pq pm : Nat} {v : Value} {l : List It} (h : QIs w B pq pm v l) (i k : Nat) (hi : i < l.length) (hk : k < l.length) : Calls Try.prog 75 #[.pointer (some ⟨pq, 0, none⟩), .int .i64 i, .int .i64 k] w
    fun e w' => e = .returned (.tuple #[]) ∧ Step w w' pq pm v v ∧ QIs w' B pq pm v (sw l i k) := swap_all h i k _ _ (itAt_some hi) (itAt_some hk)
theorem less_at {w : World} {B pq pm : Nat} {v : Value} {l : List It} (h : QIs w B pq pm v l) (i k : Nat) (hi : i < l.length) (hk : k < l.length) : Calls Try.prog 72 #[.pointer (some ⟨pq, 0, none⟩), .int .i64 i, .int .i64 k] w
    fun e w' => e = .returned (.bool (decide (ltI (itAt l i) (itAt l k)))) ∧ Below w.heap.size w w' := less_any h i k _ _ (itAt_some hi) (itAt_some hk)

/-- The queue as up and down leave it. -/
def UpIs (w w' : World) (B pq pm : Nat) (v : Value) (l : List It) (n : Nat) (l' : List It) : Prop :=
  Step w w' pq pm v v ∧ QIs w' B pq pm v l' ∧ l'.Perm l ∧ (∀ i, n ≤ i → itAt l' i = itAt l i)
theorem UpIs.refl {w : World} {B pq pm : Nat} {v : Value} {l : List It} (h : QIs w B pq pm v l) (n : Nat) : UpIs w w B pq pm v l n l := ⟨Step.refl _ _ _ _, h, List.Perm.refl _, fun _ _ => rfl⟩

theorem up_any {w : World} {B pq pm : Nat} {v : Value} {l : List It} (h : QIs w B pq pm v l) (n j : Nat) (hn : n ≤ l.length) (hj : j < n) (hu : UpN n j l) : Calls Try.prog 31 #[.iface 65 (.pointer (some ⟨pq, 0, none⟩)), .int .i64 j] w
    fun e w' => e = .returned (.tuple #[]) ∧ ∃ l', UpIs w w' B pq pm v l n l' ∧ HeapN n l' := by
  have hll := h.len
  go_enter Try.func31, Try.ntmps31
  go_wp2
  go_loopw [1] (fun jv wr => ∃ (j' : Nat) (l' : List It), jv = .int .i64 (j' : Int) ∧ j' < n ∧ UpIs w wr B pq pm v l n l' ∧ UpN n j' l') (fun jv _ => (intOf jv).toNat)
  case atStart => exact ⟨j, l, rfl, hj, UpIs.refl h n, hu⟩
  case round =>
    obtain ⟨j', l', rfl, hj', hI, hU⟩ := hrel
    obtain ⟨S1, Q1, P1, F1⟩ := hI
    have hl1 := P1.length_eq
    by_cases h0 : j' = 0
    · subst h0
      have HF := Lib.hid (show ∃ l', UpIs w wr B pq pm v l n l' ∧ HeapN n l' from ⟨l', ⟨S1, Q1, P1, F1⟩, up_end hU (.inl rfl)⟩)
      clear h hu hU S1 Q1 P1 F1
      go_wp2
      go_returns
      exact ⟨rfl, HF.out⟩
    · obtain ⟨i, hi⟩ : ∃ i, i = (j' - 1) / 2 := ⟨_, rfl⟩
      have hi2 : ((j' : Int) - 1) / 2 = (i : Int) := by omega
      have hij : i < j' := by omega
      have hii : ¬ (i : Int) = j' := by omega
      have hib : ((i : Int) == (j' : Int)) = false := by simp; omega
      by_cases hlt : ltI (itAt l' j') (itAt l' i)
      · have C1 := less_at Q1 j' i (by omega) (by omega)
        rw [decide_eq_true hlt] at C1
        have hU2 := up_step (by omega) hj' (by omega) hU (by rw [← hi]; exact hlt)
        rw [← hi] at hU2
        have HC1 := Lib.hid C1
        have HQ1 := Lib.hid Q1
        have HI := Lib.hid (show Step w wr pq pm v v ∧ l'.Perm l ∧ (∀ i, n ≤ i → itAt l' i = itAt l i) from ⟨S1, P1, F1⟩)
        have HU2 := Lib.hid hU2
        clear h hu hU S1 Q1 P1 F1 C1 hU2 hlt hi
        go_wp2_with (first
          | ((with_reducible refine (HC1.out).mono ?_); rintro e w1 ⟨rfl, hb⟩; have C2 := Lib.hid (swap_sw (HQ1.out.grow hb) i j' (by omega) (by omega)); have B1 := Lib.hid hb; clear hb)
          | ((with_reducible refine (C2.out).mono ?_); rintro e w2 ⟨rfl, hs, hq⟩; have HS := Lib.hid hs; have HQ2 := Lib.hid hq; clear hs hq))
        go_roundw
        case rel =>
          obtain ⟨S1, P1, F1⟩ := HI.out
          have hp := sw_perm (l := l') (i := i) (j := j') (by omega) (by omega)
          exact ⟨i, sw l' i j', rfl, by omega, ⟨(S1.grow B1.out).trans HS.out, HQ2.out, hp.trans P1, fun c hc => by rw [sw_at (by omega) (by omega), if_neg (by omega), if_neg (by omega)]; exact F1 c hc⟩, HU2.out⟩
        case measure => simp [intOf]; omega
      · have C1 := less_at Q1 j' i (by omega) (by omega)
        rw [decide_eq_false hlt] at C1
        have HF := Lib.hid (show ∀ w1, Below wr.heap.size wr w1 → ∃ l', UpIs w w1 B pq pm v l n l' ∧ HeapN n l' from fun w1 hb => ⟨l', ⟨S1.grow hb, Q1.grow hb, P1, F1⟩, up_end hU (.inr (by rw [← hi]; exact hlt))⟩)
        have HC1 := Lib.hid C1
        clear h hu hU S1 Q1 P1 F1 C1 hlt hi
        go_wp2_with (first
          | ((with_reducible refine (HC1.out).mono ?_); rintro e w1 ⟨rfl, hb⟩; have B1 := Lib.hid hb; clear hb))
        go_returns
        exact ⟨rfl, HF.out _ B1.out⟩
end Go.Proofs.Ytickfnedplbleaa
