/- The contracts of Get of the package varint at any bytes, and of the document's Get. -/
import Derived.Test.YtgiijgnajhlpeaaT7
namespace Go.Proofs.Ytgiijgnajhlpeaa
open Go.RowKit
attribute [local go_sem] cell_over frozen_over lt_over le_over ne_over over_ne cell_set_same softAt softUpon lightUpon heavyUpon cell_kept frozen_kept

theorem get_any (l : List UInt8) (w : World) (hl : l.length ≤ 1000) : Calls Try.prog 14 #[.string ⟨l.toArray⟩] w (GetIs w l) := by
  cases l with
  | nil => exact get_nil w
  | cons b r =>
    have hr : r.length ≤ 1000 := by rw [List.length_cons] at hl; omega
    by_cases hc : r.length + 1 < 2 ^ (b.toNat / 64)
    · exact get_short b r w hr hc
    · have hb := b.toNat_lt
      have hk4 : b.toNat / 64 = 0 ∨ b.toNat / 64 = 1 ∨ b.toNat / 64 = 2 ∨ b.toNat / 64 = 3 := by omega
      rcases hk4 with h4 | h4 | h4 | h4
      · exact get_long0 b r w hr h4 (by omega)
      · exact get_long1 b r w hr h4 (by rw [h4] at hc; omega)
      · exact get_long2 b r w hr h4 (by rw [h4] at hc; omega)
      · exact get_long3 b r w hr h4 (by rw [h4] at hc; omega)

theorem refget_nil (w : World) : Calls Try.prog 15 #[.string ⟨#[]⟩] w (GetIs w []) := by
  go_enter Try.func15, Try.ntmps15
  go_wp2
  go_returns
  exact ⟨rfl, Below.refl _ _⟩

theorem size_pow (N k : Nat) (hk : k < 4) (hN : N ≤ 4611686018427387903) : (kN N = k ↔ 2 ^ kN N = 2 ^ k) := by
  have h1 := kN_lt N
  generalize kN N = j at *
  have h2 : j = 0 ∨ j = 1 ∨ j = 2 ∨ j = 3 := by omega
  have h3 : k = 0 ∨ k = 1 ∨ k = 2 ∨ k = 3 := by omega
  rcases h2 with rfl | rfl | rfl | rfl <;> rcases h3 with rfl | rfl | rfl | rfl <;> simp

set_option maxHeartbeats 4000000 in
theorem refget_cons (b : UInt8) (r : List UInt8) (w : World) (hl : r.length ≤ 1000) : Calls Try.prog 15 #[.string ⟨(b :: r).toArray⟩] w (GetIs w (b :: r)) := by
  have hb := b.toNat_lt
  have hk4 : b.toNat / 64 < 4 := by omega
  have hne := not_empty b r
  have hx : ∀ (h0 : 0 < (⟨(b :: r).toArray⟩ : ByteArray).size), ((⟨(b :: r).toArray⟩ : ByteArray)[0]'h0).toNat = b.toNat := fun _ => rfl
  have hxi : ∀ (j : Nat) (x : UInt8), r[j]? = some x → ∀ (h : j + 1 < (⟨(b :: r).toArray⟩ : ByteArray).size), ((⟨(b :: r).toArray⟩ : ByteArray)[j + 1]'h).toNat = x.toNat := by
    intro j x hj h
    have hjl := (List.getElem?_eq_some_iff.1 hj)
    obtain ⟨h1, h2⟩ := hjl
    show ((b :: r).toArray[j + 1]'(by simpa using h1)).toNat = _
    simp [h2]
  obtain ⟨s, hs⟩ : ∃ s, s = 2 ^ (b.toNat / 64) := ⟨_, rfl⟩
  have hG : getP (b :: r) = if r.length + 1 < s then (0, 0, 3) else if kN (fold256 (b.toNat % 64) (r.take (s - 1))) ≠ b.toNat / 64 then (0, 0, 4) else (fold256 (b.toNat % 64) (r.take (s - 1)), s, 0) := by
    rw [getP_cons, hs]
    rfl
  obtain ⟨S, hS⟩ : ∃ S : ByteArray, S = ⟨(b :: r).toArray⟩ := ⟨_, rfl⟩
  have hsz : S.size = r.length + 1 := by rw [hS]; rfl
  have h0 : 0 < S.size := by omega
  rw [← hS] at hne hx hxi ⊢
  have hx0 := hx h0
  have L := fun W => reflong_any b.toNat hb W
  rw [← hs] at L
  have hs1 : 1 ≤ s := by rw [hs]; exact pow_pos2 _
  have hs8 : s ≤ 8 := by
    have h4 : b.toNat / 64 = 0 ∨ b.toNat / 64 = 1 ∨ b.toNat / 64 = 2 ∨ b.toNat / 64 = 3 := by omega
    rcases h4 with h4 | h4 | h4 | h4 <;> rw [h4] at hs <;> omega
  have HG := Lib.hid hG
  have HL := Lib.hid L
  have HXI := Lib.hid hxi
  have HSS := Lib.hid hs
  clear hS hG L hx hxi hs
  by_cases hc : r.length + 1 < s
  · have hG := HG.out
    rw [if_pos hc] at hG
    have HG2 := Lib.hid hG
    have hc2 : (r.length : Int) + 1 < s := by omega
    clear hG
    generalize b.toNat = c at *
    go_enter Try.func15, Try.ntmps15
    go_wp2_with (first | ((with_reducible refine (HL.out _).mono ?_); rintro e w1 ⟨rfl, hb1⟩))
    go_returns
    exact ⟨by rw [HG2.out]; rfl, hb1⟩
  · have hG := HG.out
    rw [if_neg hc] at hG
    have HG2 := Lib.hid hG
    have hc2 : ¬ (r.length : Int) + 1 < s := by omega
    clear hG
    obtain ⟨m, rfl⟩ : ∃ m, s = m + 1 := ⟨s - 1, by omega⟩
    have HM := Lib.hid (Nat.add_sub_cancel (n := m) (m := 1))
    generalize b.toNat = c at *
    go_enter Try.func15, Try.ntmps15
    go_wp2_with (first
      | ((with_reducible refine (HL.out w).mono ?_); rintro e w1 ⟨rfl, hb1⟩)
      | ((with_reducible refine (HL.out _).mono ?_); rintro e w2 ⟨rfl, hb2⟩))
    have B2 := bt hb1 hb2
    clear hb1 hb2 hx0 hne h0
    go_loopw [6, 7] (fun a6 i wr => ∃ j : Nat, j ≤ m ∧ i = .int .i64 ((j : Int) + 1) ∧ a6 = .int .i64 ((fold256 (c % 64) (r.take j) : Nat) : Int) ∧ Below w.heap.size w wr)
      (fun _ i _ => m + 1 - (intOf i).toNat)
    case atStart => exact ⟨0, Nat.zero_le _, rfl, by simp [fold256], B2⟩
    case round =>
      clear B2
      obtain ⟨j, hj, rfl, rfl, B⟩ := hrel
      by_cases hlt : j < m
      · obtain ⟨x, hx1, hx2⟩ := take_get r m j hlt (by omega)
        have hjr : r[j]? = some x := by rw [List.getElem?_take_of_lt hlt] at hx1; exact hx1
        have hjs : j + 1 < S.size := by omega
        have hsx := HXI.out j x hjr hjs
        have hxb := x.toNat_lt
        have hfs := fold_snoc (c % 64) (r.take j) x
        rw [← hx2] at hfs
        have hbd := fold_bound (c % 64) (r.take j)
        have hle : 256 ^ (r.take j).length ≤ 256 ^ 6 := Nat.pow_le_pow_right (by omega) (by rw [List.length_take]; omega)
        have hn : fold256 (c % 64) (r.take j) < 36028797018963968 := by
          have h1 : (c % 64 + 1) * 256 ^ (r.take j).length ≤ 64 * 256 ^ 6 := Nat.mul_le_mul (by omega) hle
          omega
        generalize fold256 (c % 64) (r.take j) = N at *
        have HFS := Lib.hid hfs
        have k0 : (0 : Int) ≤ (j : Int) + 1 := by omega
        have k1 : (j : Int) + 1 < (m : Int) + 1 := by omega
        have k2 : (j : Int) + 1 < (r.length : Int) + 1 := by omega
        have k3 : ((j : Int) + 1).toNat = j + 1 := by omega
        have k4 : (j : Int) < m := by omega
        clear hx1 hx2 hfs hbd hle hjr
        generalize x.toNat = xb at *
        go_wp2
        go_roundw
        case rel => exact ⟨j + 1, by omega, by go_num, by rw [HFS.out]; go_num, B⟩
        case measure => simp [intOf]; omega
      · obtain rfl : j = m := by omega
        have hbd := fold_bound (c % 64) (r.take j)
        have hlen : (r.take j).length = j := by rw [List.length_take]; omega
        rw [hlen] at hbd
        have hG := HG2.out
        rw [Nat.add_sub_cancel] at hG
        generalize fold256 (c % 64) (r.take j) = N at *
        have hmx : N ≤ 4611686018427387903 := by
          have hle : 256 ^ j ≤ 256 ^ 7 := Nat.pow_le_pow_right (by omega) (by omega)
          have h1 : (c % 64 + 1) * 256 ^ j ≤ 64 * 256 ^ 7 := Nat.mul_le_mul (by omega) hle
          omega
        have K := fun W => refsize_any N W
        rw [size_kN hmx] at K
        have hsp := size_pow N (c / 64) hk4 hmx
        rw [← HSS.out] at hsp
        have k4 : ¬ (j : Int) + 1 < (j : Int) + 1 := by omega
        by_cases hkn : kN N = c / 64
        · rw [hsp.1 hkn] at K
          have HK := Lib.hid (show ∀ W, Calls Try.prog 13 #[.int .i64 (N : Int)] W fun e w' => e = .returned (.int .i64 ((j : Int) + 1)) ∧ Below W.heap.size W w' from K)
          rw [if_neg (by simp [hkn])] at hG
          have HG3 := Lib.hid hG
          clear K hG hbd hlen hmx hsp hkn
          go_wp2_with (first | ((with_reducible refine (HK.out _).mono ?_); rintro e w3 ⟨rfl, hb3⟩))
          go_returns
          exact ⟨by rw [HG3.out]; rfl, bt B hb3⟩
        · have hz : 2 ^ kN N ≠ j + 1 := fun h => hkn (hsp.2 h)
          generalize 2 ^ kN N = z at *
          have HK := Lib.hid K
          rw [if_pos hkn] at hG
          have HG3 := Lib.hid hG
          have z1 : ¬ (z : Int) = (j : Int) + 1 := by omega
          have z2 : ((z : Int) == (j : Int) + 1) = false := by simp; omega
          clear K hG hbd hlen hmx hsp hkn
          go_wp2_with (first | ((with_reducible refine (HK.out _).mono ?_); rintro e w3 ⟨rfl, hb3⟩))
          go_returns
          exact ⟨by rw [HG3.out]; rfl, bt B hb3⟩
theorem refget_any (l : List UInt8) (w : World) (hl : l.length ≤ 1000) : Calls Try.prog 15 #[.string ⟨l.toArray⟩] w (GetIs w l) := by
  cases l with
  | nil => exact refget_nil w
  | cons b r => exact refget_cons b r w (by rw [List.length_cons] at hl; omega)
end Go.Proofs.Ytgiijgnajhlpeaa
