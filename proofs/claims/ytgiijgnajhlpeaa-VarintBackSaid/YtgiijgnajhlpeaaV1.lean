/- Plain facts on numbers of one, two, four or eight bytes: their bytes, and what bytes begin with. No program here. -/
import Derived.Test.YtgiijgnajhlpeaaT2
namespace Go.Proofs.Ytgiijgnajhlpeaa

/-- The j lowest bytes, the highest first. -/
def be : Nat → Nat → List UInt8
  | 0, _ => []
  | j + 1, n => UInt8.ofNat (n / 256 ^ j) :: be j n
theorem be_len : ∀ (j n : Nat), (be j n).length = j
  | 0, _ => rfl
  | j + 1, n => by simp [be, be_len j n]

theorem byte_nat (n : Nat) : (UInt8.ofNat n).toNat = n % 256 := UInt8.toNat_ofNat' (n := n)
/-- Bytes as a number behind another one. -/
def fold256 (a : Nat) (l : List UInt8) : Nat := l.foldl (fun n b => 256 * n + b.toNat) a
theorem fold_cons (a : Nat) (b : UInt8) (l : List UInt8) : fold256 a (b :: l) = fold256 (256 * a + b.toNat) l := rfl

theorem fold_be : ∀ (j a n : Nat), fold256 a (be j n) = a * 256 ^ j + n % 256 ^ j
  | 0, a, n => by simp [be, fold256, Nat.mod_one]
  | j + 1, a, n => by
    unfold be
    rw [fold_cons, fold_be j, byte_nat]
    have h1 : n % 256 ^ (j + 1) = 256 ^ j * (n / 256 ^ j % 256) + n % 256 ^ j := by
      rw [Nat.pow_succ, Nat.mod_mul, Nat.add_comm]
    rw [h1, Nat.pow_succ]
    generalize n / 256 ^ j % 256 = q
    generalize n % 256 ^ j = r
    generalize 256 ^ j = p
    rw [Nat.add_mul, Nat.mul_comm q p, Nat.mul_comm 256 a, Nat.mul_assoc, Nat.mul_comm 256 p, Nat.add_assoc]

theorem be_fold : ∀ (l : List UInt8) (a : Nat), be l.length (fold256 a l) = l ∧ fold256 a l / 256 ^ l.length = a
  | [], a => by simp [be, fold256]
  | b :: l, a => by
    obtain ⟨h1, h2⟩ := be_fold l (256 * a + b.toNat)
    rw [fold_cons]
    have hb := b.toNat_lt
    refine ⟨?_, ?_⟩
    · rw [List.length_cons]
      unfold be
      rw [h1, h2]
      congr 1
      apply UInt8.toNat.inj
      rw [byte_nat]
      omega
    · rw [List.length_cons, Nat.pow_succ, ← Nat.div_div_eq_div_mul, h2]
      omega

/-- Which length, as a number of kinds. -/
def kN (n : Nat) : Nat := if n < 64 then 0 else if n < 16384 then 1 else if n < 1073741824 then 2 else 3
theorem kN_lt (n : Nat) : kN n < 4 := by
  unfold kN
  split
  · omega
  · split
    · omega
    · split <;> omega
theorem kind_kN {n : Nat} (h : n ≤ 4611686018427387903) : kindN n = kN n := by
  unfold kindN kN
  rw [if_neg (by omega)]
  by_cases h1 : n < 64
  · rw [if_pos (by omega), if_pos h1]; rfl
  · rw [if_neg (by omega), if_neg h1]
    by_cases h2 : n < 16384
    · rw [if_pos (by omega), if_pos h2]; rfl
    · rw [if_neg (by omega), if_neg h2]
      by_cases h3 : n < 1073741824
      · rw [if_pos (by omega), if_pos h3]; rfl
      · rw [if_neg (by omega), if_neg h3]; rfl
theorem size_kN {n : Nat} (h : n ≤ 4611686018427387903) : sizeN n = (2 ^ kN n : Nat) := by
  unfold sizeN kN
  rw [if_neg (by omega)]
  by_cases h1 : n < 64
  · rw [if_pos (by omega), if_pos h1]; rfl
  · rw [if_neg (by omega), if_neg h1]
    by_cases h2 : n < 16384
    · rw [if_pos (by omega), if_pos h2]; rfl
    · rw [if_neg (by omega), if_neg h2]
      by_cases h3 : n < 1073741824
      · rw [if_pos (by omega), if_pos h3]; rfl
      · rw [if_neg (by omega), if_neg h3]; rfl
/-- What a first byte's six bits hold. -/
theorem kN_top {n : Nat} (h : n ≤ 4611686018427387903) : n < 64 * 256 ^ (2 ^ kN n - 1) := by
  unfold kN
  by_cases h1 : n < 64
  · rw [if_pos h1]; simpa using h1
  · rw [if_neg h1]
    by_cases h2 : n < 16384
    · rw [if_pos h2]; simpa using h2
    · rw [if_neg h2]
      by_cases h3 : n < 1073741824
      · rw [if_pos h3]; simpa using h3
      · rw [if_neg h3]; simp; omega
theorem kind_top {n k : Nat} (hk : k < 4) (h : n < 64 * 256 ^ (2 ^ k - 1)) : n ≤ 4611686018427387903 := by
  have h4 : k = 0 ∨ k = 1 ∨ k = 2 ∨ k = 3 := by omega
  rcases h4 with rfl | rfl | rfl | rfl <;> simp at h <;> omega

/-- A number's bytes. -/
def putB (n : Nat) : List UInt8 := UInt8.ofNat (n / 256 ^ (2 ^ kN n - 1) + 64 * kN n) :: be (2 ^ kN n - 1) n
theorem pow_pos2 (k : Nat) : 1 ≤ 2 ^ k := Nat.one_le_two_pow
theorem putB_len (n : Nat) : (putB n).length = 2 ^ kN n := by
  unfold putB
  rw [List.length_cons, be_len]
  have := pow_pos2 (kN n)
  omega

/-- What bytes begin with: the number, how many bytes it has, and the error. -/
def getC (b : UInt8) (r : List UInt8) : Nat × Nat × Nat := if r.length + 1 < 2 ^ (b.toNat / 64) then (0, 0, 3) else
    if kN (fold256 (b.toNat % 64) (r.take (2 ^ (b.toNat / 64) - 1))) ≠ b.toNat / 64 then (0, 0, 4) else (fold256 (b.toNat % 64) (r.take (2 ^ (b.toNat / 64) - 1)), 2 ^ (b.toNat / 64), 0)
def getP : List UInt8 → Nat × Nat × Nat
  | [] => (0, 0, 3)
  | b :: r => getC b r
theorem getP_cons (b : UInt8) (r : List UInt8) : getP (b :: r) = getC b r := rfl

theorem first_byte {n : Nat} (h : n ≤ 4611686018427387903) : (UInt8.ofNat (n / 256 ^ (2 ^ kN n - 1) + 64 * kN n)).toNat = n / 256 ^ (2 ^ kN n - 1) + 64 * kN n ∧ n / 256 ^ (2 ^ kN n - 1) < 64 := by
  have h1 : n / 256 ^ (2 ^ kN n - 1) < 64 := by
    rw [Nat.div_lt_iff_lt_mul (Nat.pow_pos (by omega))]
    exact kN_top h
  have h2 := kN_lt n
  rw [byte_nat]
  generalize n / 256 ^ (2 ^ kN n - 1) = q at *
  exact ⟨by omega, h1⟩

theorem get_put {n : Nat} (h : n ≤ 4611686018427387903) (rest : List UInt8) : getP (putB n ++ rest) = (n, 2 ^ kN n, 0) := by
  obtain ⟨hf, h64⟩ := first_byte h
  have hp := pow_pos2 (kN n)
  have hq : (n / 256 ^ (2 ^ kN n - 1) + 64 * kN n) / 64 = kN n := by
    generalize n / 256 ^ (2 ^ kN n - 1) = q at *
    omega
  have hr : (n / 256 ^ (2 ^ kN n - 1) + 64 * kN n) % 64 = n / 256 ^ (2 ^ kN n - 1) := by
    generalize n / 256 ^ (2 ^ kN n - 1) = q at *
    omega
  unfold putB
  rw [List.cons_append, getP_cons]
  unfold getC
  rw [hf, hq, hr]
  have hlen : (be (2 ^ kN n - 1) n ++ rest).length + 1 = 2 ^ kN n + rest.length := by
    rw [List.length_append, be_len]; omega
  have htake : (be (2 ^ kN n - 1) n ++ rest).take (2 ^ kN n - 1) = be (2 ^ kN n - 1) n := by
    rw [List.take_append_of_le_length (by rw [be_len]; exact Nat.le_refl _), List.take_of_length_le (by rw [be_len]; exact Nat.le_refl _)]
  have hfold : fold256 (n / 256 ^ (2 ^ kN n - 1)) (be (2 ^ kN n - 1) n) = n := by
    rw [fold_be, Nat.mul_comm]
    exact Nat.div_add_mod n _
  rw [if_neg (by omega), htake, hfold, if_neg (by simp)]

/-- Where a number is got, its bytes are those that are put for it. -/
theorem get_ok {l : List UInt8} {n s : Nat} (h : getP l = (n, s, 0)) : putB n = l.take s ∧ 1 ≤ s ∧ s ≤ l.length ∧ s ≤ 8 ∧ s = 2 ^ kN n ∧ n ≤ 4611686018427387903 ∧ ∃ b r, l = b :: r ∧ s = 2 ^ (b.toNat / 64) := by
  cases l with
  | nil => simp [getP] at h
  | cons b r =>
    have hb := b.toNat_lt
    have hb4 : b.toNat / 64 < 4 := by omega
    have hs := pow_pos2 (b.toNat / 64)
    have hs8 : 2 ^ (b.toNat / 64) ≤ 8 := by
      have h4 : b.toNat / 64 = 0 ∨ b.toNat / 64 = 1 ∨ b.toNat / 64 = 2 ∨ b.toNat / 64 = 3 := by omega
      rcases h4 with h4 | h4 | h4 | h4 <;> rw [h4] <;> omega
    rw [getP_cons] at h
    unfold getC at h
    by_cases c1 : r.length + 1 < 2 ^ (b.toNat / 64)
    · rw [if_pos c1] at h; simp at h
    · rw [if_neg c1] at h
      by_cases c2 : kN (fold256 (b.toNat % 64) (r.take (2 ^ (b.toNat / 64) - 1))) ≠ b.toNat / 64
      · rw [if_pos c2] at h; simp at h
      · rw [if_neg c2] at h
        have c2' : kN (fold256 (b.toNat % 64) (r.take (2 ^ (b.toNat / 64) - 1))) = b.toNat / 64 := by simpa using c2
        simp only [Prod.mk.injEq, and_true] at h
        obtain ⟨hn, hs'⟩ := h
        rw [hn] at c2'
        obtain ⟨g1, g2⟩ := be_fold (r.take (2 ^ (b.toNat / 64) - 1)) (b.toNat % 64)
        have hl : (r.take (2 ^ (b.toNat / 64) - 1)).length = 2 ^ (b.toNat / 64) - 1 := by rw [List.length_take]; omega
        rw [hl, hn] at g1 g2
        have hn' : n < 64 * 256 ^ (2 ^ (b.toNat / 64) - 1) := by
          rw [← Nat.div_lt_iff_lt_mul (Nat.pow_pos (by omega)), g2]
          omega
        refine ⟨?_, by omega, by rw [List.length_cons]; omega, by omega, by rw [c2', hs'], kind_top hb4 hn', b, r, rfl, hs'.symm⟩
        unfold putB
        rw [c2', g1, g2, ← hs']
        have e : 2 ^ (b.toNat / 64) = (2 ^ (b.toNat / 64) - 1) + 1 := by omega
        rw [e, List.take_succ_cons]
        simp only [Nat.add_sub_cancel]
        congr 1
        apply UInt8.toNat.inj
        rw [byte_nat]
        omega

theorem get_cut {b : UInt8} {r : List UInt8} {i : Nat} (h : i < 2 ^ (b.toNat / 64)) : getP ((b :: r).take i) = (0, 0, 3) := by
  cases i with
  | zero => rfl
  | succ i =>
    rw [List.take_succ_cons, getP_cons]
    unfold getC
    rw [if_pos (by rw [List.length_take]; omega)]
theorem get_err (l : List UInt8) : (getP l).2.2 = 0 ∨ getP l = (0, 0, 3) ∨ getP l = (0, 0, 4) := by
  cases l with
  | nil => exact .inr (.inl rfl)
  | cons b r =>
    rw [getP_cons]
    unfold getC
    split
    · exact .inr (.inl rfl)
    · split
      · exact .inr (.inr rfl)
      · exact .inl rfl
end Go.Proofs.Ytgiijgnajhlpeaa
