/- The contract of down of the library's heap, at a queue's row. -/
import Derived.Test.YtickfnedplbleaaT9
namespace Go.Proofs.Ytickfnedplbleaa
open Go.RowKit
attribute [local go_sem] cell_over frozen_over lt_over le_over ne_over over_ne cell_set_same softAt softUpon lightUpon heavyUpon cell_kept frozen_kept

/-- What down tells, and leaves. -/
def DownIs (w : World) (B pq pm : Nat) (v : Value) (l : List It) (n i0 : Nat) (e : Ending) (w' : World) : Prop :=
  ∃ (b : Bool) (l' : List It), e = .returned (.bool b) ∧ UpIs w w' B pq pm v l n l' ∧ (b = true → HeapN n l') ∧ (b = false → UpN n i0 l')
theorem down_ends {n i0 i : Nat} {l : List It} (h : DownN n i0 i l) (hs : Still n i l) (hi : i0 ≤ i) (b : Bool) (hb : b = decide (i0 < i)) : (b = true → HeapN n l) ∧ (b = false → UpN n i0 l) := by
  subst hb
  refine ⟨fun e => down_moved h hs (of_decide_eq_true e), fun e => ?_⟩
  obtain rfl : i0 = i := by have := of_decide_eq_false e; omega
  exact down_unmoved h hs
theorem UpIs.grow {w w1 w2 : World} {B pq pm : Nat} {v : Value} {l l' : List It} {n : Nat} (h : UpIs w w1 B pq pm v l n l') (hb : Below w1.heap.size w1 w2) : UpIs w w2 B pq pm v l n l' := ⟨h.1.grow hb, h.2.1.grow hb, h.2.2.1, h.2.2.2⟩
theorem UpIs.swap {w w1 w2 : World} {B pq pm : Nat} {v : Value} {l l' : List It} {n i j : Nat} (h : UpIs w w1 B pq pm v l n l') (hs : Step w1 w2 pq pm v v) (hq : QIs w2 B pq pm v (sw l' i j)) (hi : i < n) (hj : j < n) (hn : n ≤ l'.length) : UpIs w w2 B pq pm v l n (sw l' i j) :=
  ⟨h.1.trans hs, hq, (sw_perm (by omega) (by omega)).trans h.2.2.1, fun c hc => by rw [sw_at (by omega) (by omega), if_neg (by omega), if_neg (by omega)]; exact h.2.2.2 c hc⟩

set_option maxRecDepth 100000 in
set_option maxHeartbeats 4000000 in
theorem down_any {w : World} {B pq pm : Nat} {v : Value} {l : List It} (h : QIs w B pq pm v l) (n i0 : Nat) (hn : n ≤ l.length) (hi0 : i0 ≤ 64) (hd : DownN n i0 i0 l) : Calls Try.prog 30 #[.iface 65 (.pointer (some ⟨pq, 0, none⟩)), .int .i64 i0, .int .i64 n] w (DownIs w B pq pm v l n i0) := by
  have hll := h.len
  go_enter Try.func30, Try.ntmps30
  go_wp2
  go_loopw [7] (fun iv wr => ∃ (i : Nat) (l' : List It), iv = .int .i64 (i : Int) ∧ i0 ≤ i ∧ i ≤ 64 ∧ UpIs w wr B pq pm v l n l' ∧ DownN n i0 i l') (fun iv _ => n - (intOf iv).toNat)
  case atStart => exact ⟨i0, l, rfl, Nat.le_refl _, by omega, UpIs.refl h n, hd⟩
  case round =>
    obtain ⟨i, l', rfl, hii, hin, hI, hD⟩ := hrel
    have hl1 := hI.2.2.1.length_eq
    have x1 : (0 : Int) ≤ i := by omega
    have x2 : (i : Int) ≤ 64 := by omega
    have x3 : ¬ (2 * (i : Int) + 1 < 0) := by omega
    by_cases hA : n ≤ 2 * i + 1
    · have hA1 : (n : Int) ≤ 2 * (i : Int) + 1 := by omega
      have HF := Lib.hid (fun b hb => (show DownIs w B pq pm v l n i0 (.returned (.bool b)) wr from ⟨b, l', rfl, hI, down_ends hD (still_none hA) hii b hb⟩))
      clear h hd hI hD hA
      go_wp2
      go_returns
      exact HF.out _ (by simp)
    · obtain ⟨a1, ha1⟩ : ∃ a1, a1 = 2 * i + 1 := ⟨_, rfl⟩
      obtain ⟨a2, ha2⟩ : ∃ a2, a2 = 2 * i + 2 := ⟨_, rfl⟩
      have q1 : 2 * (i : Int) + 1 = (a1 : Int) := by omega
      have q2 : (a1 : Int) + 1 = (a2 : Int) := by omega
      have hA1 : ¬ n ≤ a1 := by omega
      have hA2 : a2 ≤ 64 := by omega
      clear hA x3
      by_cases hB : a2 < n
      · by_cases ht : ltI (itAt l' a2) (itAt l' a1)
        · have hL : Least n i a2 l' := ⟨hB, .inr ha2, fun c h1 h2 h3 => by
            rcases (show c = a1 ∨ c = a2 by omega) with rfl | rfl
            · exact lt_asym ht
            · exact lt_irr _⟩
          have C1 := less_at hI.2.1 a2 a1 (by omega) (by omega)
          rw [decide_eq_true ht] at C1
          have HC1 := Lib.hid C1
          clear C1 ht
          by_cases hs : ltI (itAt l' a2) (itAt l' i)
          · have C2 := fun W (hb : Below wr.heap.size wr W) => less_at (hI.2.1.grow hb) a2 i (by omega) (by omega)
            rw [decide_eq_true hs] at C2
            have C3 := fun W (hb : Below wr.heap.size wr W) => swap_sw (hI.2.1.grow hb) i a2 (by omega) (by omega)
            have HD2 := Lib.hid (down_step (by omega) hii hL hD hs)
            have HI := Lib.hid hI
            have HH1 := Lib.hid ha1
            have HH2 := Lib.hid ha2
            clear h hd hI hD hs hL ha1 ha2
            go_wp2_with (first
              | ((with_reducible refine (HC1.out).mono ?_); rintro e w1 ⟨rfl, hb⟩; have B1 := Lib.hid hb; have HC2 := Lib.hid (C2 _ hb); clear hb)
              | ((with_reducible refine (HC2.out).mono ?_); rintro e w2 ⟨rfl, hb⟩; have B2 := Lib.hid (bt B1.out hb); have HC3 := Lib.hid (C3 _ B2.out); clear hb)
              | ((with_reducible refine (HC3.out).mono ?_); rintro e w3 ⟨rfl, hs, hq⟩; have HS := Lib.hid hs; have HQ := Lib.hid hq; clear hs hq))
            go_roundw
            case rel =>
              have h1 := HH1.out
              have h2 := HH2.out
              exact ⟨a2, sw l' i a2, rfl, by omega, by omega, (HI.out.grow B2.out).swap HS.out HQ.out (by omega) (by omega) (by omega), HD2.out⟩
            case measure =>
              have h1 := HH1.out
              have h2 := HH2.out
              simp [intOf]; omega
          · have C2 := fun W (hb : Below wr.heap.size wr W) => less_at (hI.2.1.grow hb) a2 i (by omega) (by omega)
            rw [decide_eq_false hs] at C2
            have HF := Lib.hid (fun W (hb : Below wr.heap.size wr W) b hb2 => (show DownIs w B pq pm v l n i0 (.returned (.bool b)) W from ⟨b, l', rfl, hI.grow hb, down_ends hD (still_least hL hs) hii b hb2⟩))
            have HH1 := Lib.hid ha1
            have HH2 := Lib.hid ha2
            clear h hd hI hD hs hL ha1 ha2
            go_wp2_with (first
              | ((with_reducible refine (HC1.out).mono ?_); rintro e w1 ⟨rfl, hb⟩; have B1 := Lib.hid hb; have HC2 := Lib.hid (C2 _ hb); clear hb)
              | ((with_reducible refine (HC2.out).mono ?_); rintro e w2 ⟨rfl, hb⟩; have B2 := Lib.hid (bt B1.out hb); clear hb))
            go_returns
            exact HF.out _ B2.out _ (by simp)
        · have hL : Least n i a1 l' := ⟨by omega, .inl ha1, fun c h1 h2 h3 => by
            rcases (show c = a1 ∨ c = a2 by omega) with rfl | rfl
            · exact lt_irr _
            · exact ht⟩
          have C1 := less_at hI.2.1 a2 a1 (by omega) (by omega)
          rw [decide_eq_false ht] at C1
          have HC1 := Lib.hid C1
          clear C1 ht
          by_cases hs : ltI (itAt l' a1) (itAt l' i)
          · have C2 := fun W (hb : Below wr.heap.size wr W) => less_at (hI.2.1.grow hb) a1 i (by omega) (by omega)
            rw [decide_eq_true hs] at C2
            have C3 := fun W (hb : Below wr.heap.size wr W) => swap_sw (hI.2.1.grow hb) i a1 (by omega) (by omega)
            have HD2 := Lib.hid (down_step (by omega) hii hL hD hs)
            have HI := Lib.hid hI
            have HH1 := Lib.hid ha1
            have HH2 := Lib.hid ha2
            clear h hd hI hD hs hL ha1 ha2
            go_wp2_with (first
              | ((with_reducible refine (HC1.out).mono ?_); rintro e w1 ⟨rfl, hb⟩; have B1 := Lib.hid hb; have HC2 := Lib.hid (C2 _ hb); clear hb)
              | ((with_reducible refine (HC2.out).mono ?_); rintro e w2 ⟨rfl, hb⟩; have B2 := Lib.hid (bt B1.out hb); have HC3 := Lib.hid (C3 _ B2.out); clear hb)
              | ((with_reducible refine (HC3.out).mono ?_); rintro e w3 ⟨rfl, hs, hq⟩; have HS := Lib.hid hs; have HQ := Lib.hid hq; clear hs hq))
            go_roundw
            case rel =>
              have h1 := HH1.out
              have h2 := HH2.out
              exact ⟨a1, sw l' i a1, rfl, by omega, by omega, (HI.out.grow B2.out).swap HS.out HQ.out (by omega) (by omega) (by omega), HD2.out⟩
            case measure =>
              have h1 := HH1.out
              have h2 := HH2.out
              simp [intOf]; omega
          · have C2 := fun W (hb : Below wr.heap.size wr W) => less_at (hI.2.1.grow hb) a1 i (by omega) (by omega)
            rw [decide_eq_false hs] at C2
            have HF := Lib.hid (fun W (hb : Below wr.heap.size wr W) b hb2 => (show DownIs w B pq pm v l n i0 (.returned (.bool b)) W from ⟨b, l', rfl, hI.grow hb, down_ends hD (still_least hL hs) hii b hb2⟩))
            have HH1 := Lib.hid ha1
            have HH2 := Lib.hid ha2
            clear h hd hI hD hs hL ha1 ha2
            go_wp2_with (first
              | ((with_reducible refine (HC1.out).mono ?_); rintro e w1 ⟨rfl, hb⟩; have B1 := Lib.hid hb; have HC2 := Lib.hid (C2 _ hb); clear hb)
              | ((with_reducible refine (HC2.out).mono ?_); rintro e w2 ⟨rfl, hb⟩; have B2 := Lib.hid (bt B1.out hb); clear hb))
            go_returns
            exact HF.out _ B2.out _ (by simp)
      · have hL : Least n i a1 l' := ⟨by omega, .inl ha1, fun c h1 h2 h3 => by
          obtain rfl : c = a1 := by omega
          exact lt_irr _⟩
        by_cases hs : ltI (itAt l' a1) (itAt l' i)
        · have C2 := fun W (hb : Below wr.heap.size wr W) => less_at (hI.2.1.grow hb) a1 i (by omega) (by omega)
          rw [decide_eq_true hs] at C2
          have C3 := fun W (hb : Below wr.heap.size wr W) => swap_sw (hI.2.1.grow hb) i a1 (by omega) (by omega)
          have HD2 := Lib.hid (down_step (by omega) hii hL hD hs)
          have HI := Lib.hid hI
          have HH1 := Lib.hid ha1
          have HH2 := Lib.hid ha2
          have HC2 := Lib.hid (C2 wr (Below.refl _ _))
          clear h hd hI hD hs hL ha1 ha2
          go_wp2_with (first
            | ((with_reducible refine (HC2.out).mono ?_); rintro e w2 ⟨rfl, hb⟩; have B2 := Lib.hid hb; have HC3 := Lib.hid (C3 _ B2.out); clear hb)
            | ((with_reducible refine (HC3.out).mono ?_); rintro e w3 ⟨rfl, hs, hq⟩; have HS := Lib.hid hs; have HQ := Lib.hid hq; clear hs hq))
          go_roundw
          case rel =>
            have h1 := HH1.out
            have h2 := HH2.out
            exact ⟨a1, sw l' i a1, rfl, by omega, by omega, (HI.out.grow B2.out).swap HS.out HQ.out (by omega) (by omega) (by omega), HD2.out⟩
          case measure =>
            have h1 := HH1.out
            have h2 := HH2.out
            simp [intOf]; omega
        · have C2 := fun W (hb : Below wr.heap.size wr W) => less_at (hI.2.1.grow hb) a1 i (by omega) (by omega)
          rw [decide_eq_false hs] at C2
          have HF := Lib.hid (fun W (hb : Below wr.heap.size wr W) b hb2 => (show DownIs w B pq pm v l n i0 (.returned (.bool b)) W from ⟨b, l', rfl, hI.grow hb, down_ends hD (still_least hL hs) hii b hb2⟩))
          have HH1 := Lib.hid ha1
          have HH2 := Lib.hid ha2
          have HC2 := Lib.hid (C2 wr (Below.refl _ _))
          clear h hd hI hD hs hL ha1 ha2
          go_wp2_with (first
            | ((with_reducible refine (HC2.out).mono ?_); rintro e w2 ⟨rfl, hb⟩; have B2 := Lib.hid hb; clear hb))
          go_returns
          exact HF.out _ B2.out _ (by simp)
end Go.Proofs.Ytickfnedplbleaa
