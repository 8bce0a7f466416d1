/- Plain facts on verdicts: the worst of many in two parts; and rows of bytes that came in. No conditions beyond those that each states. -/
import Derived.Test.YtppmjbjgcakieaaC5
namespace Go.Proofs.Ytppmjbjgcakieaa
open Go.RowKit

/-- A slice of integers that came in: nil, or a row of cells. -/
def IsRow (k : IntKind) (w : World) (a : Option Addr) (len cap : Nat) (zs : List Int) : Prop :=
  (a = none ∧ len = 0 ∧ cap = 0 ∧ zs = []) ∨
  ∃ x, a = some x ∧ len ≤ cap ∧ cap ≤ maxLen ∧ zs.length = cap ∧ (∀ i, i < zs.length → w.cell? (x.add i) = some (.int k (zs.getD i 0))) ∧ ∀ n ∈ zs, (Lit.int k n).wf = true

/-- n bytes from a on. -/
def Bytes (w : World) (a : Option Addr) (n : Nat) (xs : Nat → Nat) : Prop :=
  ∀ k, k < n → ∃ b o, a = some ⟨b, o, none⟩ ∧ w.cell? ⟨b, o + k, none⟩ = some (.int .u8 (xs k))

theorem Bytes.below {w w' : World} {a : Option Addr} {n : Nat} {xs : Nat → Nat} (h : Bytes w a n xs) (hb : Below w.heap.size w w') : Bytes w' a n xs :=
  fun k hk => let ⟨b, o, ha, hc⟩ := h k hk; ⟨b, o, ha, cell_below hb hc⟩

theorem row_bytes {w : World} {a : Option Addr} {len cap : Nat} {zs : List Int} (h : IsRow .u8 w a len cap zs) :
    ∃ xs : Nat → Nat, (∀ k, xs k ≤ 255) ∧ len ≤ cap ∧ cap ≤ maxLen ∧ Bytes w a cap xs := by
  rcases h with ⟨rfl, rfl, rfl, rfl⟩ | ⟨x, rfl, hl, hm, hz, hc, hw⟩
  · exact ⟨fun _ => 0, fun _ => Nat.zero_le _, Nat.le_refl _, Nat.zero_le _, fun k hk => absurd hk (by omega)⟩
  · have hb : ∀ k, 0 ≤ zs.getD k 0 ∧ zs.getD k 0 ≤ 255 := by
      intro k
      rcases Nat.lt_or_ge k zs.length with h | h
      · have hm : zs.getD k 0 ∈ zs := by
          rw [List.getD_eq_getElem?_getD, List.getElem?_eq_getElem h]
          exact List.getElem_mem h
        simpa [Lit.wf, IntKind.min, IntKind.max, IntKind.signed, IntKind.bits] using hw _ hm
      · rw [List.getD_eq_getElem?_getD, List.getElem?_eq_none h]
        exact ⟨Int.le_refl _, by show (0 : Int) ≤ 255; omega⟩
    refine ⟨fun k => (zs.getD k 0).toNat, fun k => by have := hb k; show (zs.getD k 0).toNat ≤ 255; omega, hl, hm, fun k hk => ?_⟩
    have hs : x.spot = none := by
      have h0 := hc 0 (by omega)
      have hx : x.add 0 = x := by simp [Addr.add]
      rw [hx] at h0
      cases hsp : x.spot with
      | none => rfl
      | some s =>
        simp only [World.cell?, hsp] at h0
        split at h0 <;> simp_all
    obtain ⟨b, o, s⟩ := x
    simp only at hs
    subst hs
    refine ⟨b, o, rfl, ?_⟩
    have h1 := hc k (by omega)
    have e : (⟨b, o, none⟩ : Addr).add k = ⟨b, o + k, none⟩ := by unfold Addr.add; split <;> simp_all
    rw [e] at h1
    rw [h1]
    have := hb k
    rw [show ((zs.getD k 0).toNat : Int) = zs.getD k 0 by omega]

/-- a[lo:hi] of bytes. -/
theorem bytes_sub {w : World} {a : Option Addr} {cap : Nat} {xs : Nat → Nat} (h : Bytes w a cap xs) (lo hi : Nat) (h1 : lo ≤ hi) (h2 : hi ≤ cap) :
    Bytes w (if cap = lo then a else a.map (·.add (lo * 1))) (hi - lo) (fun j => xs (lo + j)) := by
  intro k hk
  obtain ⟨b, o, ha, hc⟩ := h (lo + k) (by omega)
  refine ⟨b, o + lo, ?_, ?_⟩
  · rw [if_neg (by omega), ha]
    have e : (⟨b, o, none⟩ : Addr).add lo = ⟨b, o + lo, none⟩ := by unfold Addr.add; split <;> simp_all
    simp [e]
  · rw [Nat.add_assoc]
    exact hc

theorem judV_nonneg (k c : Nat) : 0 ≤ (judV k c).1 := by
  unfold judV
  repeat' split
  all_goals decide
theorem judV_codes (k c : Nat) : 0 ≤ (judV k c).2 ∧ (judV k c).2 ≤ 255 := by
  unfold judV
  repeat' split
  all_goals decide
theorem worst_nonneg (xs ys : Nat → Nat) (n : Nat) : 0 ≤ (worstV xs ys n).1 := by
  induction n with
  | zero => exact Int.le_refl _
  | succ n ih =>
    unfold worstV worseV
    split
    · exact judV_nonneg _ _
    · exact ih
theorem worse_assoc (a b c : Int × Int) : worseV (worseV a b) c = worseV a (worseV b c) := by
  unfold worseV
  repeat' split
  all_goals first | rfl | (exfalso; omega)
theorem worse_zero {a : Int × Int} (h : 0 ≤ a.1) : worseV a (0, 0) = a := by
  unfold worseV
  rw [if_neg (by show ¬ a.1 < 0; omega)]
theorem worse_self (a : Int × Int) : worseV a a = a := by
  unfold worseV
  split <;> rfl
theorem worst_split (xs ys : Nat → Nat) (k : Nat) : ∀ m, worseV (worstV xs ys k) (worstV (fun j => xs (k + j)) (fun j => ys (k + j)) m) = worstV xs ys (k + m)
  | 0 => worse_zero (worst_nonneg xs ys k)
  | m + 1 => by
    show worseV _ (worseV _ _) = worseV _ _
    rw [← worse_assoc, worst_split xs ys k m]
    rfl
theorem worst_ge (xs ys : Nat → Nat) : ∀ n i, i < n → (judV (xs i) (ys i)).1 ≤ (worstV xs ys n).1
  | 0, _, h => absurd h (by omega)
  | n + 1, i, h => by
    unfold worstV worseV
    by_cases hi : i = n
    · subst hi
      split <;> omega
    · have := worst_ge xs ys n i (by omega)
      split <;> omega
theorem worse_one (a b : Int × Int) : worseV a b = a ∨ worseV a b = b := by
  unfold worseV
  split
  · exact .inr rfl
  · exact .inl rfl
end Go.Proofs.Ytppmjbjgcakieaa
