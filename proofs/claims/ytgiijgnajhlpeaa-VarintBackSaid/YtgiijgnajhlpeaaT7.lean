/- The contract of Get of the package varint: what bytes begin with. -/
import Derived.Test.YtgiijgnajhlpeaaT6
import Derived.Laws.BitsLemmas
namespace Go.Proofs.Ytgiijgnajhlpeaa
open Go.RowKit
attribute [local go_sem] cell_over frozen_over lt_over le_over ne_over over_ne cell_set_same softAt softUpon lightUpon heavyUpon cell_kept frozen_kept

def GetIs (w : World) (l : List UInt8) (e : Ending) (w' : World) : Prop := e = .returned (.tuple #[.int .i64 (getP l).1, .int .i64 (getP l).2.1, .int .i64 (getP l).2.2]) ∧ Below w.heap.size w w'

theorem and63 : ∀ c : Fin 256, bits BinOp.and IntKind.u8 (c.val : Int) 63 = ((c.val % 64 : Nat) : Int) := by decide +kernel
theorem or256 (n c : Nat) (hn : n < 36028797018963968) (hc : c < 256) : bits BinOp.or IntKind.i64 ((256 * n : Nat) : Int) (c : Int) = ((256 * n + c : Nat) : Int) := by
  have := bits_join .i64 63 (by decide) (fun n h0 h1 => IntWalk.i64_in n (by omega)) 8 ((256 * n : Nat) : Int) (c : Int) (by omega) (by omega) (by omega) (by omega) (by omega) (by omega)
  rw [this]
  omega
theorem fold_bound (a : Nat) : ∀ (l : List UInt8), fold256 a l < (a + 1) * 256 ^ l.length := by
  intro l
  obtain ⟨_, h2⟩ := be_fold l a
  have hp : 0 < 256 ^ l.length := Nat.pow_pos (by omega)
  have := Nat.lt_mul_div_succ (fold256 a l) hp
  rw [h2, Nat.mul_comm] at this
  exact this

theorem get_nil (w : World) : Calls Try.prog 14 #[.string ⟨#[]⟩] w (GetIs w []) := by
  go_enter Try.func14, Try.ntmps14
  go_wp2
  go_returns
  exact ⟨rfl, Below.refl _ _⟩

theorem not_empty (b : UInt8) (r : List UInt8) : (⟨(b :: r).toArray⟩ : ByteArray).toList.isEmpty = false := by rw [Lib.toList_data]; rfl

set_option maxHeartbeats 4000000 in
theorem get_short (b : UInt8) (r : List UInt8) (w : World) (hl : r.length ≤ 1000) (hc : r.length + 1 < 2 ^ (b.toNat / 64)) : Calls Try.prog 14 #[.string ⟨(b :: r).toArray⟩] w (GetIs w (b :: r)) := by
  have hb := b.toNat_lt
  have hG : getP (b :: r) = (0, 0, 3) := by rw [getP_cons]; unfold getC; rw [if_pos hc]
  have hI : GetIs w (b :: r) = fun e w' => e = .returned (.tuple #[.int .i64 0, .int .i64 0, .int .i64 3]) ∧ Below w.heap.size w w' := by unfold GetIs; rw [hG]; rfl
  rw [hI]
  have hk : (b.toNat : Int) / 64 = ((b.toNat / 64 : Nat) : Int) := by omega
  have hk4 : b.toNat / 64 = 0 ∨ b.toNat / 64 = 1 ∨ b.toNat / 64 = 2 ∨ b.toNat / 64 = 3 := by omega
  have hne := not_empty b r
  obtain ⟨S, hS⟩ : ∃ S : ByteArray, S = ⟨(b :: r).toArray⟩ := ⟨_, rfl⟩
  have hsz : S.size = r.length + 1 := by rw [hS]; rfl
  have h0 : 0 < S.size := by omega
  have hx : (S[0]).toNat = b.toNat := by subst hS; rfl
  rw [← hS] at hne ⊢
  clear hS hG hI
  generalize b.toNat = c at *
  rcases hk4 with h4 | h4 | h4 | h4
  all_goals
    rw [h4] at hk hc
    have hc2 := hc
    simp only [Nat.reducePow] at hc2
    clear h4 hc
  · omega
  all_goals
    have hc3 : (r.length : Int) + 1 < _ := Int.ofNat_lt.2 hc2
    go_enter Try.func14, Try.ntmps14
    go_wp2
    go_returns
    exact ⟨rfl, Below.refl _ _⟩

/-- []byte(s[1:m+1]). -/
theorem conv_sub (b : UInt8) (r : List UInt8) (m s : Nat) (hs : m + 1 = s) (hm : m ≤ r.length) (w : World) : ∃ (cap : Nat) (X : Array Value) (fz : Nat × Nat), (convert 9 24 (.string ((⟨(b :: r).toArray⟩ : ByteArray).extract 1 s))).run Try.prog w = .ok (.slice (some ⟨w.heap.size, 0, none⟩) m cap) (w.drew.alloc (.cells X 5 fz)) ∧ ∀ (j : Nat) (x : UInt8), (r.take m)[j]? = some x → X[j]? = some (Value.int .u8 (x.toNat : Int)) := by
  subst hs
  have h := run_bytes_of_string (P := Try.prog) w 9 24 5 ((⟨(b :: r).toArray⟩ : ByteArray).extract 1 (m + 1)) Try.underlying9 Try.underlying24 Try.underlying5
  have hd : ((⟨(b :: r).toArray⟩ : ByteArray).extract 1 (m + 1)).data = (r.take m).toArray := by simp
  have hsz : ((⟨(b :: r).toArray⟩ : ByteArray).extract 1 (m + 1)).size = m := by
    show ((⟨(b :: r).toArray⟩ : ByteArray).extract 1 (m + 1)).data.size = m
    rw [hd]
    simp
    omega
  rw [hsz] at h
  refine ⟨_, _, _, h, fun j x hj => ?_⟩
  unfold bytesRow
  rw [hd]
  have hjm : j < (r.take m).length := (List.getElem?_eq_some_iff.1 hj).1
  rw [Array.getElem?_append_left (by simpa using hjm)]
  simp only [List.map_toArray, List.getElem?_toArray, List.getElem?_map, hj, Option.map_some]

theorem take_get (r : List UInt8) (m j : Nat) (h : j < m) (hm : m ≤ r.length) : ∃ x, (r.take m)[j]? = some x ∧ r.take (j + 1) = r.take j ++ [x] := by
  have hj : j < r.length := by omega
  refine ⟨r[j], by rw [List.getElem?_take_of_lt h]; exact List.getElem?_eq_getElem hj, ?_⟩
  rw [List.take_add_one, List.getElem?_eq_getElem hj]
  rfl
theorem fold_snoc (a : Nat) (l : List UInt8) (x : UInt8) : fold256 a (l ++ [x]) = 256 * fold256 a l + x.toNat := by simp [fold256, List.foldl_append]

set_option maxHeartbeats 4000000 in
theorem get_long0 (b : UInt8) (r : List UInt8) (w : World) (hl : r.length ≤ 1000) (hk0 : b.toNat / 64 = 0) (hc : 0 ≤ r.length) : Calls Try.prog 14 #[.string ⟨(b :: r).toArray⟩] w (GetIs w (b :: r)) := by
  have hb := b.toNat_lt
  have hk : (b.toNat : Int) / 64 = 0 := by omega
  have hne := not_empty b r
  have h63 := and63 ⟨b.toNat, hb⟩
  obtain ⟨cap, X, fz, hcv, hX⟩ := conv_sub b r 0 1 rfl hc w
  have hG : getP (b :: r) = if kN (fold256 (b.toNat % 64) (r.take 0)) ≠ 0 then (0, 0, 4) else (fold256 (b.toNat % 64) (r.take 0), 1, 0) := by
    rw [getP_cons]
    unfold getC
    rw [hk0, if_neg (by omega)]
  obtain ⟨S, hS⟩ : ∃ S : ByteArray, S = ⟨(b :: r).toArray⟩ := ⟨_, rfl⟩
  have hsz : S.size = r.length + 1 := by rw [hS]; rfl
  have h0 : 0 < S.size := by omega
  have hx : (S[0]).toNat = b.toNat := by subst hS; rfl
  rw [← hS] at hne hcv ⊢
  have HG := Lib.hid hG
  have HX := Lib.hid hX
  have hc2 : ¬ r.length + 1 < 1 := by omega
  have hc3 : ¬ ((r.length : Int) + 1 < 1) := by omega
  have hc4 : (1 : Int) ≤ (r.length : Int) + 1 := by omega
  have hc5 : (0 : Int) ≤ (r.length : Int) := by omega
  have he : S.extract 1 1 = ByteArray.empty := by simp
  rw [he] at hcv
  clear he
  simp only at h63
  clear hS hG hX hk0
  generalize b.toNat = c at *
  go_enter Try.func14, Try.ntmps14
  go_wp2
  go_loopw [7, 31] (fun a7 i wr => ∃ j : Nat, j ≤ 0 ∧ i = .int .i64 (j : Nat) ∧ a7 = .int .i64 ((fold256 (c % 64) (r.take j) : Nat) : Int) ∧ Below w.heap.size w wr ∧ wr.heap[w.heap.size]? = some (.cells X 5 fz))
    (fun _ i _ => 0 - (intOf i).toNat)
  case atStart => exact ⟨0, Nat.zero_le _, rfl, by simp [fold256], ((Below.refl _ _).drew).alloc (Nat.le_refl _) _, (blk_new rfl)⟩
  case round =>
    obtain ⟨j, hj, rfl, rfl, B, hh⟩ := hrel
    clear hcv
    by_cases hlt : j < 0
    · obtain ⟨x, hx1, hx2⟩ := take_get r 0 j hlt (by omega)
      have c1 := (blk_cell hh j).trans (HX.out j x hx1)
      have c2 := blk_lt hh
      have hxb := x.toNat_lt
      have hfs := fold_snoc (c % 64) (r.take j) x
      rw [← hx2] at hfs
      have hbd := fold_bound (c % 64) (r.take j)
      have hle : 256 ^ (r.take j).length ≤ 256 ^ 6 := Nat.pow_le_pow_right (by omega) (by rw [List.length_take]; omega)
      have hn : fold256 (c % 64) (r.take j) < 36028797018963968 := by
        have h1 : (c % 64 + 1) * 256 ^ (r.take j).length ≤ 64 * 256 ^ 6 := Nat.mul_le_mul (by omega) hle
        omega
      generalize fold256 (c % 64) (r.take j) = N at *
      have h256 := or256 N x.toNat hn hxb
      rw [show ((256 * N : Nat) : Int) = (N : Int) * 256 by omega] at h256
      have HFS := Lib.hid hfs
      have k0 : (0 : Int) ≤ (j : Int) := by omega
      have k1 : (j : Int) < 0 := by omega
      have hlt' : j < 0 := hlt
      clear hx1 hx2 hfs hbd hle
      generalize x.toNat = xb at *
      go_wp2
      go_roundw
      case rel => exact ⟨j + 1, by omega, by go_num, by rw [HFS.out]; go_num, B, hh⟩
      case measure => simp [intOf]; omega
    · obtain rfl : j = 0 := by omega
      have hbd := fold_bound (c % 64) (r.take 0)
      have hlen : (r.take 0).length = 0 := by rw [List.length_take]; omega
      rw [hlen] at hbd
      generalize fold256 (c % 64) (r.take 0) = N at *
      have hmx : N ≤ 4611686018427387903 := by
        have h1 : (c % 64 + 1) * 256 ^ 0 ≤ 64 * 256 ^ 0 := Nat.mul_le_mul_right _ (by omega)
        omega
      have K := fun W => kind_some N W hmx
      rw [kind_kN hmx] at K
      have HK := Lib.hid K
      by_cases hkn : kN N = 0
      · have hG := HG.out
        rw [if_neg (by simp [hkn])] at hG
        have HG2 := Lib.hid hG
        clear K hG hbd hlen hmx
        go_wp2_with (first | ((with_reducible refine (HK.out _).mono ?_); rintro e w2 ⟨rfl, hb2⟩))
        go_returns
        exact ⟨by rw [HG2.out]; rfl, bt B hb2⟩
      · have hG := HG.out
        rw [if_pos hkn] at hG
        have HG2 := Lib.hid hG
        have hkn2 : ¬ (kN N : Int) = 0 := by omega
        have hkn3 : ((kN N : Int) == 0) = false := by simp; omega
        clear K hG hbd hlen hmx
        go_wp2_with (first | ((with_reducible refine (HK.out _).mono ?_); rintro e w2 ⟨rfl, hb2⟩))
        go_returns
        exact ⟨by rw [HG2.out]; rfl, bt B hb2⟩
set_option maxHeartbeats 4000000 in
theorem get_long1 (b : UInt8) (r : List UInt8) (w : World) (hl : r.length ≤ 1000) (hk0 : b.toNat / 64 = 1) (hc : 1 ≤ r.length) : Calls Try.prog 14 #[.string ⟨(b :: r).toArray⟩] w (GetIs w (b :: r)) := by
  have hb := b.toNat_lt
  have hk : (b.toNat : Int) / 64 = 1 := by omega
  have hne := not_empty b r
  have h63 := and63 ⟨b.toNat, hb⟩
  obtain ⟨cap, X, fz, hcv, hX⟩ := conv_sub b r 1 2 rfl hc w
  have hG : getP (b :: r) = if kN (fold256 (b.toNat % 64) (r.take 1)) ≠ 1 then (0, 0, 4) else (fold256 (b.toNat % 64) (r.take 1), 2, 0) := by
    rw [getP_cons]
    unfold getC
    rw [hk0, if_neg (by omega)]
  obtain ⟨S, hS⟩ : ∃ S : ByteArray, S = ⟨(b :: r).toArray⟩ := ⟨_, rfl⟩
  have hsz : S.size = r.length + 1 := by rw [hS]; rfl
  have h0 : 0 < S.size := by omega
  have hx : (S[0]).toNat = b.toNat := by subst hS; rfl
  rw [← hS] at hne hcv ⊢
  have HG := Lib.hid hG
  have HX := Lib.hid hX
  have hc2 : ¬ r.length + 1 < 2 := by omega
  simp only at h63
  clear hS hG hX hk0
  generalize b.toNat = c at *
  go_enter Try.func14, Try.ntmps14
  go_wp2
  go_loopw [7, 31] (fun a7 i wr => ∃ j : Nat, j ≤ 1 ∧ i = .int .i64 (j : Nat) ∧ a7 = .int .i64 ((fold256 (c % 64) (r.take j) : Nat) : Int) ∧ Below w.heap.size w wr ∧ wr.heap[w.heap.size]? = some (.cells X 5 fz))
    (fun _ i _ => 1 - (intOf i).toNat)
  case atStart => exact ⟨0, Nat.zero_le _, rfl, by simp [fold256], ((Below.refl _ _).drew).alloc (Nat.le_refl _) _, (blk_new rfl)⟩
  case round =>
    obtain ⟨j, hj, rfl, rfl, B, hh⟩ := hrel
    clear hcv
    by_cases hlt : j < 1
    · obtain ⟨x, hx1, hx2⟩ := take_get r 1 j hlt (by omega)
      have c1 := (blk_cell hh j).trans (HX.out j x hx1)
      have c2 := blk_lt hh
      have hxb := x.toNat_lt
      have hfs := fold_snoc (c % 64) (r.take j) x
      rw [← hx2] at hfs
      have hbd := fold_bound (c % 64) (r.take j)
      have hle : 256 ^ (r.take j).length ≤ 256 ^ 6 := Nat.pow_le_pow_right (by omega) (by rw [List.length_take]; omega)
      have hn : fold256 (c % 64) (r.take j) < 36028797018963968 := by
        have h1 : (c % 64 + 1) * 256 ^ (r.take j).length ≤ 64 * 256 ^ 6 := Nat.mul_le_mul (by omega) hle
        omega
      generalize fold256 (c % 64) (r.take j) = N at *
      have h256 := or256 N x.toNat hn hxb
      rw [show ((256 * N : Nat) : Int) = (N : Int) * 256 by omega] at h256
      have HFS := Lib.hid hfs
      have k0 : (0 : Int) ≤ (j : Int) := by omega
      have k1 : (j : Int) < 1 := by omega
      have hlt' : j < 1 := hlt
      clear hx1 hx2 hfs hbd hle
      generalize x.toNat = xb at *
      go_wp2
      go_roundw
      case rel => exact ⟨j + 1, by omega, by go_num, by rw [HFS.out]; go_num, B, hh⟩
      case measure => simp [intOf]; omega
    · obtain rfl : j = 1 := by omega
      have hbd := fold_bound (c % 64) (r.take 1)
      have hlen : (r.take 1).length = 1 := by rw [List.length_take]; omega
      rw [hlen] at hbd
      generalize fold256 (c % 64) (r.take 1) = N at *
      have hmx : N ≤ 4611686018427387903 := by
        have h1 : (c % 64 + 1) * 256 ^ 1 ≤ 64 * 256 ^ 1 := Nat.mul_le_mul_right _ (by omega)
        omega
      have K := fun W => kind_some N W hmx
      rw [kind_kN hmx] at K
      have HK := Lib.hid K
      by_cases hkn : kN N = 1
      · have hG := HG.out
        rw [if_neg (by simp [hkn])] at hG
        have HG2 := Lib.hid hG
        clear K hG hbd hlen hmx
        go_wp2_with (first | ((with_reducible refine (HK.out _).mono ?_); rintro e w2 ⟨rfl, hb2⟩))
        go_returns
        exact ⟨by rw [HG2.out]; rfl, bt B hb2⟩
      · have hG := HG.out
        rw [if_pos hkn] at hG
        have HG2 := Lib.hid hG
        have hkn2 : ¬ (kN N : Int) = 1 := by omega
        have hkn3 : ((kN N : Int) == 1) = false := by simp; omega
        clear K hG hbd hlen hmx
        go_wp2_with (first | ((with_reducible refine (HK.out _).mono ?_); rintro e w2 ⟨rfl, hb2⟩))
        go_returns
        exact ⟨by rw [HG2.out]; rfl, bt B hb2⟩
set_option maxHeartbeats 4000000 in
theorem get_long2 (b : UInt8) (r : List UInt8) (w : World) (hl : r.length ≤ 1000) (hk0 : b.toNat / 64 = 2) (hc : 3 ≤ r.length) : Calls Try.prog 14 #[.string ⟨(b :: r).toArray⟩] w (GetIs w (b :: r)) := by
  have hb := b.toNat_lt
  have hk : (b.toNat : Int) / 64 = 2 := by omega
  have hne := not_empty b r
  have h63 := and63 ⟨b.toNat, hb⟩
  obtain ⟨cap, X, fz, hcv, hX⟩ := conv_sub b r 3 4 rfl hc w
  have hG : getP (b :: r) = if kN (fold256 (b.toNat % 64) (r.take 3)) ≠ 2 then (0, 0, 4) else (fold256 (b.toNat % 64) (r.take 3), 4, 0) := by
    rw [getP_cons]
    unfold getC
    rw [hk0, if_neg (by omega)]
  obtain ⟨S, hS⟩ : ∃ S : ByteArray, S = ⟨(b :: r).toArray⟩ := ⟨_, rfl⟩
  have hsz : S.size = r.length + 1 := by rw [hS]; rfl
  have h0 : 0 < S.size := by omega
  have hx : (S[0]).toNat = b.toNat := by subst hS; rfl
  rw [← hS] at hne hcv ⊢
  have HG := Lib.hid hG
  have HX := Lib.hid hX
  have hc2 : ¬ r.length + 1 < 4 := by omega
  simp only at h63
  clear hS hG hX hk0
  generalize b.toNat = c at *
  go_enter Try.func14, Try.ntmps14
  go_wp2
  go_loopw [7, 31] (fun a7 i wr => ∃ j : Nat, j ≤ 3 ∧ i = .int .i64 (j : Nat) ∧ a7 = .int .i64 ((fold256 (c % 64) (r.take j) : Nat) : Int) ∧ Below w.heap.size w wr ∧ wr.heap[w.heap.size]? = some (.cells X 5 fz))
    (fun _ i _ => 3 - (intOf i).toNat)
  case atStart => exact ⟨0, Nat.zero_le _, rfl, by simp [fold256], ((Below.refl _ _).drew).alloc (Nat.le_refl _) _, (blk_new rfl)⟩
  case round =>
    obtain ⟨j, hj, rfl, rfl, B, hh⟩ := hrel
    clear hcv
    by_cases hlt : j < 3
    · obtain ⟨x, hx1, hx2⟩ := take_get r 3 j hlt (by omega)
      have c1 := (blk_cell hh j).trans (HX.out j x hx1)
      have c2 := blk_lt hh
      have hxb := x.toNat_lt
      have hfs := fold_snoc (c % 64) (r.take j) x
      rw [← hx2] at hfs
      have hbd := fold_bound (c % 64) (r.take j)
      have hle : 256 ^ (r.take j).length ≤ 256 ^ 6 := Nat.pow_le_pow_right (by omega) (by rw [List.length_take]; omega)
      have hn : fold256 (c % 64) (r.take j) < 36028797018963968 := by
        have h1 : (c % 64 + 1) * 256 ^ (r.take j).length ≤ 64 * 256 ^ 6 := Nat.mul_le_mul (by omega) hle
        omega
      generalize fold256 (c % 64) (r.take j) = N at *
      have h256 := or256 N x.toNat hn hxb
      rw [show ((256 * N : Nat) : Int) = (N : Int) * 256 by omega] at h256
      have HFS := Lib.hid hfs
      have k0 : (0 : Int) ≤ (j : Int) := by omega
      have k1 : (j : Int) < 3 := by omega
      have hlt' : j < 3 := hlt
      clear hx1 hx2 hfs hbd hle
      generalize x.toNat = xb at *
      go_wp2
      go_roundw
      case rel => exact ⟨j + 1, by omega, by go_num, by rw [HFS.out]; go_num, B, hh⟩
      case measure => simp [intOf]; omega
    · obtain rfl : j = 3 := by omega
      have hbd := fold_bound (c % 64) (r.take 3)
      have hlen : (r.take 3).length = 3 := by rw [List.length_take]; omega
      rw [hlen] at hbd
      generalize fold256 (c % 64) (r.take 3) = N at *
      have hmx : N ≤ 4611686018427387903 := by
        have h1 : (c % 64 + 1) * 256 ^ 3 ≤ 64 * 256 ^ 3 := Nat.mul_le_mul_right _ (by omega)
        omega
      have K := fun W => kind_some N W hmx
      rw [kind_kN hmx] at K
      have HK := Lib.hid K
      by_cases hkn : kN N = 2
      · have hG := HG.out
        rw [if_neg (by simp [hkn])] at hG
        have HG2 := Lib.hid hG
        clear K hG hbd hlen hmx
        go_wp2_with (first | ((with_reducible refine (HK.out _).mono ?_); rintro e w2 ⟨rfl, hb2⟩))
        go_returns
        exact ⟨by rw [HG2.out]; rfl, bt B hb2⟩
      · have hG := HG.out
        rw [if_pos hkn] at hG
        have HG2 := Lib.hid hG
        have hkn2 : ¬ (kN N : Int) = 2 := by omega
        have hkn3 : ((kN N : Int) == 2) = false := by simp; omega
        clear K hG hbd hlen hmx
        go_wp2_with (first | ((with_reducible refine (HK.out _).mono ?_); rintro e w2 ⟨rfl, hb2⟩))
        go_returns
        exact ⟨by rw [HG2.out]; rfl, bt B hb2⟩
set_option maxHeartbeats 4000000 in
theorem get_long3 (b : UInt8) (r : List UInt8) (w : World) (hl : r.length ≤ 1000) (hk0 : b.toNat / 64 = 3) (hc : 7 ≤ r.length) : Calls Try.prog 14 #[.string ⟨(b :: r).toArray⟩] w (GetIs w (b :: r)) := by
  have hb := b.toNat_lt
  have hk : (b.toNat : Int) / 64 = 3 := by omega
  have hne := not_empty b r
  have h63 := and63 ⟨b.toNat, hb⟩
  obtain ⟨cap, X, fz, hcv, hX⟩ := conv_sub b r 7 8 rfl hc w
  have hG : getP (b :: r) = if kN (fold256 (b.toNat % 64) (r.take 7)) ≠ 3 then (0, 0, 4) else (fold256 (b.toNat % 64) (r.take 7), 8, 0) := by
    rw [getP_cons]
    unfold getC
    rw [hk0, if_neg (by omega)]
  obtain ⟨S, hS⟩ : ∃ S : ByteArray, S = ⟨(b :: r).toArray⟩ := ⟨_, rfl⟩
  have hsz : S.size = r.length + 1 := by rw [hS]; rfl
  have h0 : 0 < S.size := by omega
  have hx : (S[0]).toNat = b.toNat := by subst hS; rfl
  rw [← hS] at hne hcv ⊢
  have HG := Lib.hid hG
  have HX := Lib.hid hX
  have hc2 : ¬ r.length + 1 < 8 := by omega
  simp only at h63
  clear hS hG hX hk0
  generalize b.toNat = c at *
  go_enter Try.func14, Try.ntmps14
  go_wp2
  go_loopw [7, 31] (fun a7 i wr => ∃ j : Nat, j ≤ 7 ∧ i = .int .i64 (j : Nat) ∧ a7 = .int .i64 ((fold256 (c % 64) (r.take j) : Nat) : Int) ∧ Below w.heap.size w wr ∧ wr.heap[w.heap.size]? = some (.cells X 5 fz))
    (fun _ i _ => 7 - (intOf i).toNat)
  case atStart => exact ⟨0, Nat.zero_le _, rfl, by simp [fold256], ((Below.refl _ _).drew).alloc (Nat.le_refl _) _, (blk_new rfl)⟩
  case round =>
    obtain ⟨j, hj, rfl, rfl, B, hh⟩ := hrel
    clear hcv
    by_cases hlt : j < 7
    · obtain ⟨x, hx1, hx2⟩ := take_get r 7 j hlt (by omega)
      have c1 := (blk_cell hh j).trans (HX.out j x hx1)
      have c2 := blk_lt hh
      have hxb := x.toNat_lt
      have hfs := fold_snoc (c % 64) (r.take j) x
      rw [← hx2] at hfs
      have hbd := fold_bound (c % 64) (r.take j)
      have hle : 256 ^ (r.take j).length ≤ 256 ^ 6 := Nat.pow_le_pow_right (by omega) (by rw [List.length_take]; omega)
      have hn : fold256 (c % 64) (r.take j) < 36028797018963968 := by
        have h1 : (c % 64 + 1) * 256 ^ (r.take j).length ≤ 64 * 256 ^ 6 := Nat.mul_le_mul (by omega) hle
        omega
      generalize fold256 (c % 64) (r.take j) = N at *
      have h256 := or256 N x.toNat hn hxb
      rw [show ((256 * N : Nat) : Int) = (N : Int) * 256 by omega] at h256
      have HFS := Lib.hid hfs
      have k0 : (0 : Int) ≤ (j : Int) := by omega
      have k1 : (j : Int) < 7 := by omega
      have hlt' : j < 7 := hlt
      clear hx1 hx2 hfs hbd hle
      generalize x.toNat = xb at *
      go_wp2
      go_roundw
      case rel => exact ⟨j + 1, by omega, by go_num, by rw [HFS.out]; go_num, B, hh⟩
      case measure => simp [intOf]; omega
    · obtain rfl : j = 7 := by omega
      have hbd := fold_bound (c % 64) (r.take 7)
      have hlen : (r.take 7).length = 7 := by rw [List.length_take]; omega
      rw [hlen] at hbd
      generalize fold256 (c % 64) (r.take 7) = N at *
      have hmx : N ≤ 4611686018427387903 := by
        have h1 : (c % 64 + 1) * 256 ^ 7 ≤ 64 * 256 ^ 7 := Nat.mul_le_mul_right _ (by omega)
        omega
      have K := fun W => kind_some N W hmx
      rw [kind_kN hmx] at K
      have HK := Lib.hid K
      by_cases hkn : kN N = 3
      · have hG := HG.out
        rw [if_neg (by simp [hkn])] at hG
        have HG2 := Lib.hid hG
        clear K hG hbd hlen hmx
        go_wp2_with (first | ((with_reducible refine (HK.out _).mono ?_); rintro e w2 ⟨rfl, hb2⟩))
        go_returns
        exact ⟨by rw [HG2.out]; rfl, bt B hb2⟩
      · have hG := HG.out
        rw [if_pos hkn] at hG
        have HG2 := Lib.hid hG
        have hkn2 : ¬ (kN N : Int) = 3 := by omega
        have hkn3 : ((kN N : Int) == 3) = false := by simp; omega
        clear K hG hbd hlen hmx
        go_wp2_with (first | ((with_reducible refine (HK.out _).mono ?_); rintro e w2 ⟨rfl, hb2⟩))
        go_returns
        exact ⟨by rw [HG2.out]; rfl, bt B hb2⟩
end Go.Proofs.Ytgiijgnajhlpeaa
